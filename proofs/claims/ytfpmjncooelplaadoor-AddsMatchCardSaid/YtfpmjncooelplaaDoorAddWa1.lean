/-
  The walks: what a function computes is what its plain function says (printed by a program of one's own).
-/
import Derived.Test.YtfpmjncooelplaaDoorAddFa
set_option maxRecDepth 100000
set_option linter.unusedSimpArgs false
set_option linter.unusedVariables false
namespace Go.Proofs.YtfpmjncooelplaaDoor
open Go Go.DB Go.RowKit

theorem utf8_ValidString_ok {s : Str} {r : Bool} (h : utf8_ValidString s = some r) : FSpec Tryd.prog 71 [rep s] (rep r) := by
 obtain rfl := some_eq h
 exact validS_spec validStr_lay rfl rfl rfl fnok71

theorem strings_Trim_ok {s cs : Str} {r : Str} (h : strings_Trim s cs = some r) : FSpec Tryd.prog 59 [rep s, rep cs] (rep r) := by
 obtain ⟨hn, h⟩ := need_some h
 obtain rfl := some_eq h
 exact trimS_spec trimStr_lay (by kernel_rfl) rfl fnok59 hn

theorem strings_Compare_ok {s sep : Str} {r : Int} (h : strings_Compare s sep = some r) : FSpec Tryd.prog 55 [rep s, rep sep] (rep r) := by
 obtain rfl := some_eq h
 exact compareS_spec compareStr_lay rfl fnok55

set_option maxHeartbeats 4000000 in
theorem slices_Insert_Op_ok {l v : List DOp} {i : Int} {r : List DOp} {s0 s2 : Value} (h : slices_Insert_Op l i v = some r) : FSpecO Tryd.prog 61 [isV s0, rep i, isV s2] [(s0, rowV 34 l), (s2, rowV 34 v)] (anyV) [none, none, some (rowV 34 r)] := by
 obtain ⟨⟨hi0, hi1, hb⟩, h⟩ := need_some h
 obtain rfl := some_eq h
 obtain ⟨i, rfl⟩ : ∃ n : Nat, i = n := ⟨i.toNat, by omega⟩
 simp only [Int.toNat_natCast]
 have hil : i ≤ l.length := by omega
 have hW : W ((l.length : Int) + v.length) = ((l.length + v.length : Nat) : Int) := W_eq (by unfold InI; omega)
 have hWi : W ((i : Int) + v.length) = ((i + v.length : Nat) : Int) := W_eq (by unfold InI; omega)
 have hWq : W (((l.length + v.length : Nat) : Int) - i) = ((l.length + v.length - i : Nat) : Int) := by rw [W_eq (by unfold InI; omega)]; omega
 refine FSpecO.intro fnok61 Tryd.func61 rfl Tryd.ntmps61 rfl (fun F => (.tellSl (k := 95) rfl (fun ad cap hs hlc hcm hsp hnil => ?_)))
 subst hs
 refine .tellSl (k := 96) rfl (fun ad2 cap2 hs2 hlc2 hcm2 hsp2 hnil2 => ?_)
 subst hs2
 refine .sn mx (.c (.assign (S := anyV) .none (fun _ _ => trivial)) (.nil (.sn mx (.mv rfl (.mv rfl (.c (.sliceV (lo := some _) (hi := none) sl22 ty34 (.s rfl) (.s rfl) rfl (by omega) (by omega) (by omega) hlc rfl) (.nil (.sn mx (.mv rfl (.c (.lenV sl22 (.s rfl) (by omega)) (.asn rfl (.nil (.seq (.sn mx (.mv rfl (.c (.eqI .none (.s rfl) .i) (.nil (.cond rfl trivial (fun hb1 => ?_) (fun hb1 => ?_)))))))))))))))))))
 ·
  have hv : v = [] := List.length_eq_zero_iff.1 (by simpa using hb1)
  exact .sn mx (.mv rfl (.asn rfl (.nil (.anon (t := 6) (g := 95) rfl rfl trivial rfl (.reB (t := 6) (C' := rowV 34 (l.take i ++ v ++ l.drop i)) rfl (congrArg (rowV 34) (by rw [hv, List.append_nil, List.take_append_drop])) (.ret (.thenRet (Ends.ret1O (.inl rfl) [95, 96, 6] Tryd.results61 (by decide) (.skip (.skip (.res rfl rfl))) (ResOK.tmp rfl trivial (fun _ _ _ _ => trivial))))))))))
 have hv0 : 0 < v.length := by simp at hb1; exact List.length_pos_iff.2 hb1
 refine .skip (.then (.sn mx (.mv rfl (.c (.lenV sl22 (.s rfl) (by omega)) (.asn rfl (.nil (.seq (.sn mx (.mv rfl (.mv rfl (.c (.eqI .none (.s rfl) (.s rfl)) (.nil (.cond rfl trivial (fun hb2 => ?_) (fun hb2 => ?_))))))))))))))
 ·
  have hin : i = l.length := by have := of_decide_eq_true hb2; omega
  exact .sr [oo, oo, ([95, 96], [25, 95]), ([25], [6, 25])] mx (.mvA rfl (.mvA rfl (.cW (.appendLent (k := 95) (k2 := 96) rk22 rfl (.told (.s rfl) rfl) (.s rfl) rfl (by omega) (by decide) inferInstance) (.cW (.passRow rfl (.tmp rfl)) (.nil (.reB (t := 6) (C' := rowV 34 (l.take i ++ v ++ l.drop i)) rfl (congrArg (rowV 34) (by rw [hin, List.take_length, List.drop_length, List.append_nil])) (.ret (.thenRet (Ends.ret1O (.inl rfl) [95, 96, 6] Tryd.results61 (by decide) (.skip (.skip (.res rfl rfl))) (ResOK.tmp rfl trivial (fun _ _ _ _ => trivial)))))))))))
 have hin : i < l.length := by have := of_decide_eq_false hb2; omega
 -- both lie somewhere
 obtain ⟨⟨b, off, sp⟩, rfl⟩ : ∃ x, ad = some x := by
  cases ad with
  | none => rw [hnil rfl] at hin; simp at hin
  | some x => exact ⟨x, rfl⟩
 obtain rfl : sp = none := hsp _ rfl
 obtain ⟨⟨vb, voff, sp2⟩, rfl⟩ : ∃ x, ad2 = some x := by
  cases ad2 with
  | none => rw [hnil2 rfl] at hv0; simp at hv0
  | some x => exact ⟨x, rfl⟩
 obtain rfl : sp2 = none := hsp2 _ rfl
 refine .skip (.then (.apartSl (k := 95) (k2 := 96) rfl rfl (by decide) (fun hne => ?_)))
 simp only at hne
 refine .seq (.sn mx (.mv rfl (.mv rfl (.c (.re hW.symm (.addW .none (.s rfl) (.s rfl))) (.mv rfl (.c (.capV sl22 (.s rfl) hcm) (.c (.gt .none (.s rfl) (.s rfl)) (.nil (.cond rfl trivial (fun hb3 => ?_) (fun hb3 => ?_))))))))))
 ·
  have hgrow : cap < l.length + v.length := by have := of_decide_eq_true hb3; omega
  have htl : (l.take i).length = i := by rw [List.length_take]; omega
  refine .sr [oo, oo, oo, oo, oo, oo, oo, oo, ([95], [40]), ([40], [9, 40])] mx (.mvA rfl (.mvA rfl (.cA (.sliceV (lo := none) (hi := some _) sl22 ty34 (.s rfl) rfl (.s rfl) (by omega) (by omega) (by omega) hlc sliced_headI) (.mvA rfl (.mvA rfl (.cA (.re hW.symm (.addW .none (.s rfl) (.s rfl))) (.mvA rfl (.cA (.re hWq.symm (.subW .none (.s rfl) (.s rfl))) (.cW (.appendZ (k := 95) (l := l) (i := i) (q := l.length + v.length - i) rk22 zo34 Tryd.underlying3 rfl (.s rfl) rfl hil (.s rfl) (by omega) (by omega) (by omega)) (.cW (.passRow rfl (.tmp rfl)) (.nil (.nameRow (t := 9) (g := 5001) rfl rfl rfl (fun s9 => .tellSl (k := 5001) rfl (fun ad9 cap9 hs9 hl9 hc9 hsp9 hnil9 => ?_))))))))))))))
  obtain ⟨z, hz⟩ : ∃ z, z = (⟨(⟨(0 : Int), Str.nil, (0 : Int)⟩ : Stamp), (0 : Int), Str.nil, Str.nil, Str.nil, (0 : Int)⟩ : DOp) := ⟨_, rfl⟩
  rw [← hz] at hs9 hl9 hnil9
  have hlen : (l.take i ++ List.replicate (l.length + v.length - i) z).length = l.length + v.length := by rw [List.length_append, htl, List.length_replicate]; omega
  rw [hlen] at hs9 hl9
  subst hs9
  obtain ⟨⟨b9, o9, sp9⟩, rfl⟩ : ∃ x, ad9 = some x := by
   cases ad9 with
   | none => have := congrArg List.length (hnil9 rfl); rw [hlen, List.length_nil] at this; omega
   | some x => exact ⟨x, rfl⟩
  obtain rfl : sp9 = none := hsp9 _ rfl
  refine .sr [oo, oo, oo, oo, ([5001, 96], [5001])] mx (.mvA rfl (.mvA rfl (.cA (.sliceV (lo := some _) (hi := none) sl22 ty34 (.s rfl) (.s rfl) rfl (by omega) (by omega) (by omega) hl9 (sliced_atI (by omega))) (.mvA rfl (.cW (.copyIn (k := 5001) (k2 := 96) (A := l.take i) (C := List.replicate (l.length - i) z) (m := v.length) (p := 0) (N := l.length + v.length) (R := l.take i ++ v ++ List.replicate (l.length - i) z) rk22 (.s rfl) (.s rfl) (by rw [htl]) (by rw [Nat.zero_mul]; rfl) (by omega) rfl (by omega) (by rw [htl, List.length_replicate]; omega) (by rw [List.drop_zero]) rfl (fun M D w h => by
   rw [← hz, show l.length + v.length - i = v.length + (l.length - i) by omega, ← List.replicate_append_replicate, ← List.append_assoc] at h
   have := gap_of_row (n := l.length + v.length) h
   rwa [List.length_replicate] at this) rfl) (.nil ?_))))))
  refine .sr [oo, oo, oo, oo, oo, oo, oo, oo, ([5001, 95], [5001])] mx (.mvA rfl (.mvA rfl (.mvA rfl (.cA (.re hWi.symm (.addW .none (.s rfl) (.s rfl))) (.cA (.sliceV (lo := some _) (hi := none) sl22 ty34 (.s rfl) (.s rfl) rfl (by omega) (by omega) (by omega) hl9 (sliced_atI (by omega))) (.mvA rfl (.mvA rfl (.cA (.sliceV (lo := some _) (hi := none) sl22 ty34 (.s rfl) (.s rfl) rfl (by omega) (by omega) (by omega) hlc (sliced_atI (by omega))) (.cW (.copyIn (k := 5001) (k2 := 95) (A := l.take i ++ v) (C := []) (m := l.length - i) (p := i) (N := l.length + v.length) (R := l.take i ++ v ++ l.drop i) rk22 (.s rfl) (.s rfl) (by rw [List.length_append, htl]) rfl (by omega) rfl (by omega) (by rw [List.length_append, htl, List.length_nil]; omega) (by rw [List.append_nil]) rfl (fun M D w h => by
   rw [← List.append_nil (l.take i ++ v ++ List.replicate (l.length - i) z)] at h
   have := gap_of_row (n := l.length + v.length) h
   rwa [List.length_replicate] at this) rfl) (.nil ?_))))))))))
  exact .sn mx (.mv rfl (.asn rfl (.nil (.anon (t := 6) (g := 5001) rfl rfl trivial rfl (.ret (.thenRet (Ends.ret1O (.inl rfl) [95, 96, 6] Tryd.results61 (by decide) (.skip (.skip (.res rfl rfl))) (ResOK.tmp rfl trivial (fun _ _ _ _ => trivial)))))))))
 have hroom : l.length + v.length ≤ cap := by have := of_decide_eq_false hb3; omega
 refine .skip (.then (.sn mx (.mv rfl (.mv rfl (.mv rfl (.c (.re hW.symm (.addW .none (.s rfl) (.s rfl))) (.c (.sliceV (lo := none) (hi := some _) sl22 ty34 (.s rfl) rfl (.s rfl) (by omega) (by omega) (by omega) hlc sliced_headI) (.asn rfl (.nil (.seq (.sr [oo, oo, oo, oo, oo, oo, ([95, 96], []), oo] mx (.mvA rfl (.mvA rfl (.mvA rfl (.mvA rfl (.cA (.re hWi.symm (.addW .none (.s rfl) (.s rfl))) (.cA (.sliceV (lo := some _) (hi := none) sl22 ty34 (.s rfl) (.s rfl) rfl (by omega) (by omega) (by omega) hroom (sliced_atI (by omega))) (.cA (.overlapsV 4 (f := 80) (k := 95) (k2 := 96) rk22 Tryd.func80 (by kernel_rfl) (by kernel_rfl) (by kernel_rfl) (by kernel_rfl) (.s rfl) (.s rfl) rfl rfl (Ne.symm hne) (by intro e; rw [e] at hin; simp at hin)) (.cA (.not .none (.s rfl)) (.nil (.cond rfl trivial (fun _ => ?_) (fun hf => by simp at hf))))))))))))))))))))))
 refine .sr [oo, oo, oo, oo, oo, oo, oo, oo, ([95], [95])] mx (.mvA rfl (.mvA rfl (.mvA rfl (.cA (.re hWi.symm (.addW .none (.s rfl) (.s rfl))) (.cA (.sliceV (lo := some _) (hi := none) sl22 ty34 (.s rfl) (.s rfl) rfl (by omega) (by omega) (by omega) hroom (sliced_atI (by omega))) (.mvA rfl (.mvA rfl (.cA (.sliceV (lo := some _) (hi := none) sl22 ty34 (.s rfl) (.s rfl) rfl (by omega) (by omega) (by omega) hroom (sliced_atI (by omega))) (.cW (.copyUp (k := 95) (l := l) (i := i) (m := v.length) rk22 (.s rfl) (.s rfl) rfl rfl (by omega) (by omega) rfl hil hroom) (.nil ?_))))))))))
 have htl : (l.take i).length = i := by rw [List.length_take]; omega
 exact .sr [oo, oo, oo, oo, ([95, 96], [95])] mx (.mvA rfl (.mvA rfl (.cA (.sliceV (lo := some _) (hi := none) sl22 ty34 (.s rfl) (.s rfl) rfl (by omega) (by omega) (by omega) hroom (sliced_atI (by omega))) (.mvA rfl (.cW (.copyIn (k := 95) (k2 := 96) (A := l.take i) (C := l.drop i) (m := v.length) (p := 0) (N := l.length + v.length) (R := l.take i ++ v ++ l.drop i) rk22 (.s rfl) (.s rfl) (by rw [htl]) (by rw [Nat.zero_mul]; rfl) (by omega) rfl (by omega) (by rw [htl, List.length_drop]; omega) (by rw [List.drop_zero]) rfl (fun _ _ _ h => h) rfl) (.nil (.sn mx (.mv rfl (.asn rfl (.nil (.anon (t := 6) (g := 95) rfl rfl trivial rfl (.ret (.thenRet (Ends.ret1O (.inl rfl) [95, 96, 6] Tryd.results61 (by decide) (.skip (.skip (.res rfl rfl))) (ResOK.tmp rfl trivial (fun _ _ _ _ => trivial))))))))))))))))
theorem cmp_isNaN_int_ok {x1 : Int} {r : Bool}  (h : cmp_isNaN_int x1 = some r) : FSpec Tryd.prog 70 [rep x1] (rep r) := by
 unfold cmp_isNaN_int at h
 refine FSpec.i Tryd.func70 rfl Tryd.ntmps70 rfl (fun F => (.sn mx (.asb (.nil (.sn mx (.mv rfl (.mv rfl (.c (.neI .none (.s rfl) (.s rfl)) (.asn rfl (.nil (.ret ?_)))))))))))
 obtain rfl := some_eq h
 exact Ends.rt Tryd.results70 rfl

theorem cmp_Compare_int_ok {x1 : Int} {y1 : Int} {r : Int}  (h : cmp_Compare_int x1 y1 = some r) : FSpec Tryd.prog 56 [rep x1, rep y1] (rep r) := by
 unfold cmp_Compare_int at h
 obtain ⟨xNaN1, hv1, h⟩ := bind_some h
 obtain ⟨yNaN1, hv2, h⟩ := bind_some h
 refine FSpec.i Tryd.func56 rfl Tryd.ntmps56 rfl (fun F => (.sn mx (.asi (.nil (.sn mx (.mv rfl (.c (.call .none (cmp_isNaN_int_ok hv1) (.cons (.s rfl) .nil)) (.asn rfl (.nil (.sn mx (.mv rfl (.c (.call .none (cmp_isNaN_int_ok hv2) (.cons (.s rfl) .nil)) (.asn rfl (.nil (.seq (.sn mx (.mv rfl (.nil (.cb rfl h (fun _ h => ?_) fun _ h => ?_)))))))))))))))))))
 ·
  refine .seq (.sn mx (.mv rfl (.nil (.cb rfl h (fun _ h => ?_) fun _ h => ?_))))
  ·
   refine .sn mx (.asi (.nil (.ret (.thenRet (.thenRet ?_)))))
   obtain rfl := some_eq h
   exact Ends.rt Tryd.results56 rfl
  ·
   refine .skip (.then (.sn mx (.asi (.nil (.ret (.thenRet ?_))))))
   obtain rfl := some_eq h
   exact Ends.rt Tryd.results56 rfl
 ·
  refine .skip (.then (.seq (.sn mx (.mv rfl (.nil (.cb rfl h (fun _ h => ?_) fun _ h => ?_))))))
  ·
   refine .sn mx (.asi (.nil (.ret (.thenRet ?_))))
   obtain rfl := some_eq h
   exact Ends.rt Tryd.results56 rfl
  ·
   refine .skip (.then (.seq (.sn mx (.mv rfl (.mv rfl (.lt rfl rfl (.nil (.cb rfl h (fun _ h => ?_) fun _ h => ?_))))))))
   ·
    refine .sn mx (.asi (.nil (.ret (.thenRet ?_))))
    obtain rfl := some_eq h
    exact Ends.rt Tryd.results56 rfl
   ·
    refine .skip (.then (.seq (.sn mx (.mv rfl (.mv rfl (.c (.gt .none (.s rfl) (.s rfl)) (.nil (.cb rfl h (fun _ h => ?_) fun _ h => ?_))))))))
    ·
     refine .sn mx (.asi (.nil (.ret (.thenRet ?_))))
     obtain rfl := some_eq h
     exact Ends.rt Tryd.results56 rfl
    ·
     refine .skip (.then (.sn mx (.asi (.nil (.ret ?_)))))
     obtain rfl := some_eq h
     exact Ends.rt Tryd.results56 rfl

theorem cmp_Or_int_ok {vals1 : (List Int)} {r : Int}  (h : cmp_Or_int vals1 = some r) : FSpec Tryd.prog 54 [rep vals1] (rep r) := by
 unfold cmp_Or_int at h
 refine FSpec.i Tryd.func54 rfl Tryd.ntmps54 rfl (fun F => (.sn mx (.asi (.nil (.sn mx (.asi (.nil (.seq (.sn mx (.mv rfl (.ln sl90 rfl (.mvi (.nil ?_)))))))))))))
 obtain ⟨o_1, h, hK1⟩ := bindR_some h
 refine .tJ (fun s => o_1 = Res.nx s) (.k 3 rfl .nil) SubB.nil ?_ (fun j_1 hj1 => ?_)
 ·
  refine .block (.rforEL h (fun p2_ => [(8, ⟨True, rep p2_.1⟩)]) (fun p2_ => []) (.k 8 rfl .nil) SubB.nil (.k2 3 6 rfl rfl (.k 7 rfl .nil)) SubB.nil (fun p2_ o_2 h hD2 => (.sn mx (.lt rfl rfl (.nil (.seq (.cb rfl h (fun _ h => ?_) fun _ h => ?_)))))))
  ·
   refine .skip (.then (.seq ?_))
   obtain ⟨o_4, h, hK4⟩ := bindD_some h
   unfold cmp_Or_int_L1 at h
   refine .tJ (fun s => o_4 = Res.nx s) (.k4 3 6 7 8 rfl rfl rfl rfl .nil) SubB.nil ?_ (fun j_4 hj4 => ?_)
   ·
    obtain ⟨hn5, h⟩ := need_some h
    obtain ⟨val1, hv6, h⟩ := bnd_some h
    refine .block (.sn mx (.ix sl90 ty3 rfl rfl hn5 (.ld ty3 rfl (.ra hv6 rfl (.nil (.sn mx (.mv rfl (.mv rfl (.c (.neI .none (.s rfl) (.s rfl)) (.nil (.cb rfl h (fun _ h => ?_) fun _ h => ?_)))))))))))
    ·
     refine .sn mx (.mv rfl (.asn rfl (.nil (.ret (.blkRet (.thenRet (.thenRet (.blkRet (.thenRet ?_)))))))))
     replace h := resd_ab hK4 (some_eq h)
     replace h := hD2 _ (some_eq h)
     replace h := resb_ab hK1 (some_eq h)
     obtain rfl := some_eq h
     exact Ends.rt Tryd.results54 rfl
    ·
     exact .skip (.blkNormal (Ends.j _ (some_eq h)))
   ·
    have h := resd_nx hK4 hj4
    exact .rn mx (.adi rfl (.mv rfl (.nil (Ends.ag (some_eq h)))))
  ·
   refine .exit (.thenExit (.thenExit (.blkExit ?_)))
   replace h := hD2 _ (some_eq h)
   exact Ends.j _ (some_eq h)
 ·
  have h := resb_nx hK1 hj1
  refine .sn mx (.mv rfl (.asn rfl (.nil (.ret ?_))))
  obtain rfl := some_eq h
  exact Ends.rt Tryd.results54 rfl

theorem ref_byOp_ok {a1 : DOp} {b1 : DOp} {r : Int}  (h : ref_byOp a1 b1 = some r) : FSpec Tryd.prog 26 [rep a1, rep b1] (rep r) := by
 unfold ref_byOp at h
 obtain ⟨r1, hv1, h⟩ := bind_some h
 obtain ⟨r2, hv2, h⟩ := bind_some h
 obtain ⟨r3, hv3, h⟩ := bind_some h
 refine FSpec.i Tryd.func26 rfl Tryd.ntmps26 rfl (fun F => (.sn mx (.c (.box .none (.s rfl)) (.c (.box .none (.s rfl)) (.asi (.nil (.sn mx (.fa fd34_0 hfd34_0 rfl (.fa fd32_1 hfd32_1 rfl (.ld ty9 rfl (.fa fd34_0 hfd34_0 rfl (.fa fd32_1 hfd32_1 rfl (.ld ty9 rfl (.c (.call .none (strings_Compare_ok hv1) (.cons (.s rfl) (.cons (.s rfl) .nil))) (.fa fd34_0 hfd34_0 rfl (.fa fd32_2 hfd32_2 rfl (.ld ty3 rfl (.fa fd34_0 hfd34_0 rfl (.fa fd32_2 hfd32_2 rfl (.ld ty3 rfl (.c (.call .none (cmp_Compare_int_ok hv2) (.cons (.s rfl) (.cons (.s rfl) .nil))) (.c (.buildSlice (xs := [_, _]) .none sl90 ty3 hz3 (.cons (.s rfl) (.cons (.s rfl) .nil)) rfl (by decide)) (.c (.call .none (cmp_Or_int_ok hv3) (.cons (.s rfl) .nil)) (.asn rfl (.nil (.ret ?_))))))))))))))))))))))))))
 obtain rfl := some_eq h
 exact Ends.rt Tryd.results26 rfl

theorem ref_NameOf_ok {s1 : Str} {r : Bool}  (h : ref_NameOf s1 = some r) : FSpec Tryd.prog 28 [rep s1] (rep r) := by
 unfold ref_NameOf at h
 refine FSpec.i Tryd.func28 rfl Tryd.ntmps28 rfl (fun F => (.sn mx (.asb (.nil (.seq (.sn mx (.mv rfl (.c (.lenStr .none Tryd.underlying9 (.s rfl)) (.mvi (.nil ?_))))))))))
 obtain ⟨o_1, h, hK1⟩ := bindR_some h
 refine .tJ (fun s => o_1 = Res.nx s) (.k 0 rfl .nil) SubB.nil ?_ (fun j_1 hj1 => ?_)
 ·
  refine .block (.rforEL h (fun p2_ => [(7, ⟨True, rep p2_.1⟩)]) (fun p2_ => []) (.k 7 rfl .nil) SubB.nil (.k2 0 6 rfl rfl .nil) SubB.nil (fun p2_ o_2 h hD2 => (.sn mx (.lt rfl rfl (.nil (.seq (.cb rfl h (fun _ h => ?_) fun _ h => ?_)))))))
  ·
   refine .skip (.then (.seq ?_))
   obtain ⟨o_4, h, hK4⟩ := bindD_some h
   unfold ref_NameOf_L1 at h
   refine .tJ (fun s => o_4 = Res.nx s) (.k2 0 6 rfl rfl (.k 7 rfl .nil)) SubB.nil ?_ (fun j_4 hj4 => ?_)
   ·
    obtain ⟨hn5, h⟩ := need_some h
    obtain ⟨c1, hv6, h⟩ := bnd_some h
    refine .block (.sn mx (.mv rfl (.asn rfl (.nil (.sn mx (.mv rfl (.mv rfl (.c (.indexStr .none Tryd.underlying9 (.s rfl) (.s rfl) (fun _ => hn5)) (.ra hv6 rfl (.nil (.sn mx (.mv rfl (.c (.kgeq .none (.s rfl) .ki) (.mv rfl (.mg rfl rfl rfl (.c (.kleq (.at rfl rfl) (.tmp rfl id) .ki) (.pa rfl rfl (.c (.not .none (.s rfl)) (.mv rfl (.mg rfl rfl rfl (.c (.eqI (.at rfl rfl) (.tmp rfl id) .i) (.c (.move (.at rfl rfl) (.tmp rfl id)) (.mg rfl rfl rfl (.c (.kgeq (.at rfl rfl) (.tmp rfl id) .ki) (.c (.move (.at rfl rfl) (.tmp rfl id)) (.mg rfl rfl rfl (.c (.kleq (.at rfl rfl) (.tmp rfl id) .ki) (.c (.pickAnd (.at rfl rfl) (.tmp rfl id) (.tmp rfl id)) (.c (.not (.at rfl rfl) (.tmp rfl id)) (.c (.move (.at rfl rfl) (.tmp rfl id)) (.mg rfl rfl rfl (.c (.kneq (.at rfl rfl) (.tmp rfl id) .ki) (.c (.pickAnd (.at rfl rfl) (.tmp rfl id) (.tmp rfl id)) (.c (.pickOr (.at rfl rfl) (.tmp rfl id) (.tmp rfl id)) (.pa rfl rfl (.nil (.cb rfl h (fun _ h => ?_) fun _ h => ?_)))))))))))))))))))))))))))))))))))))
    ·
     refine .sn mx (.asb (.nil (.ret (.blkRet (.thenRet (.thenRet (.blkRet (.thenRet ?_))))))))
     replace h := resd_ab hK4 (some_eq h)
     replace h := hD2 _ (some_eq h)
     replace h := resb_ab hK1 (some_eq h)
     obtain rfl := some_eq h
     exact Ends.rt Tryd.results28 rfl
    ·
     exact .skip (.blkNormal (Ends.j _ (some_eq h)))
   ·
    have h := resd_nx hK4 hj4
    exact .rn mx (.adi rfl (.mv rfl (.nil (Ends.ag (some_eq h)))))
  ·
   refine .exit (.thenExit (.thenExit (.blkExit ?_)))
   replace h := hD2 _ (some_eq h)
   exact Ends.j _ (some_eq h)
 ·
  have h := resb_nx hK1 hj1
  refine .sn mx (.mv rfl (.c (.neS .none (eqAt_str Tryd.underlying9) (.s rfl) (.str (l := []) (by decide))) (.mv rfl (.mg rfl rfl rfl (.c (.lenStr (.at rfl rfl) Tryd.underlying9 (.tmp rfl id)) (.c (.le (.at rfl rfl) (.tmp rfl id) .i) (.pa rfl rfl (.asn rfl (.nil (.ret ?_))))))))))
  obtain rfl := some_eq h
  exact Ends.rt Tryd.results28 rfl

theorem ref_When_ok {is1 : Bool} {e1 : Int} {r : Int}  (h : ref_When is1 e1 = some r) : FSpec Tryd.prog 27 [rep is1, rep e1] (rep r) := by
 unfold ref_When at h
 refine FSpec.i Tryd.func27 rfl Tryd.ntmps27 rfl (fun F => (.sn mx (.asi (.nil (.seq (.sn mx (.mv rfl (.nil (.cb rfl h (fun _ h => ?_) fun _ h => ?_)))))))))
 ·
  refine .sn mx (.mv rfl (.asn rfl (.nil (.ret (.thenRet ?_)))))
  obtain rfl := some_eq h
  exact Ends.rt Tryd.results27 rfl
 ·
  refine .skip (.then (.sn mx (.asi (.nil (.ret ?_)))))
  obtain rfl := some_eq h
  exact Ends.rt Tryd.results27 rfl

theorem ref_In_ok {n1 : Int} {low1 : Int} {high1 : Int} {r : Bool}  (h : ref_In n1 low1 high1 = some r) : FSpec Tryd.prog 29 [rep n1, rep low1, rep high1] (rep r) := by
 unfold ref_In at h
 refine FSpec.i Tryd.func29 rfl Tryd.ntmps29 rfl (fun F => (.sn mx (.asb (.nil (.sn mx (.mv rfl (.mv rfl (.c (.ge .none (.s rfl) (.s rfl)) (.mv rfl (.mg rfl rfl rfl (.mg rfl rfl rfl (.c (.le (.at rfl rfl) (.tmp rfl id) (.tmp rfl id)) (.pa rfl rfl (.asn rfl (.nil (.ret ?_))))))))))))))))
 obtain rfl := some_eq h
 exact Ends.rt Tryd.results29 rfl

theorem ref_First_ok {l1 : (List Int)} {r : Int}  (h : ref_First l1 = some r) : FSpec Tryd.prog 22 [rep l1] (rep r) := by
 unfold ref_First at h
 refine FSpec.i Tryd.func22 rfl Tryd.ntmps22 rfl (fun F => (.sn mx (.asi (.nil (.seq (.sn mx (.mv rfl (.ln sl71 rfl (.mvi (.nil ?_))))))))))
 obtain ⟨o_1, h, hK1⟩ := bindR_some h
 refine .tJ (fun s => o_1 = Res.nx s) Sub.nil SubB.nil ?_ (fun j_1 hj1 => ?_)
 ·
  refine .block (.rforEL h (fun p2_ => [(7, ⟨True, rep p2_.1⟩)]) (fun p2_ => []) (.k 7 rfl .nil) SubB.nil (.k2 5 6 rfl rfl .nil) SubB.nil (fun p2_ o_2 h hD2 => (.sn mx (.lt rfl rfl (.nil (.seq (.cb rfl h (fun _ h => ?_) fun _ h => ?_)))))))
  ·
   refine .skip (.then (.seq ?_))
   obtain ⟨o_4, h, hK4⟩ := bindD_some h
   unfold ref_First_L1 at h
   refine .tJ (fun s => o_4 = Res.nx s) (.k2 5 6 rfl rfl (.k 7 rfl .nil)) SubB.nil ?_ (fun j_4 hj4 => ?_)
   ·
    obtain ⟨hn5, h⟩ := need_some h
    obtain ⟨e1, hv6, h⟩ := bnd_some h
    refine .block (.sn mx (.ix sl71 ty23 rfl rfl hn5 (.ld ty23 rfl (.ra hv6 rfl (.nil (.sn mx (.mv rfl (.nei rfl (.nil (.cb rfl h (fun _ h => ?_) fun _ h => ?_))))))))))
    ·
     refine .sn mx (.mv rfl (.asn rfl (.nil (.ret (.blkRet (.thenRet (.thenRet (.blkRet (.thenRet ?_)))))))))
     replace h := resd_ab hK4 (some_eq h)
     replace h := hD2 _ (some_eq h)
     replace h := resb_ab hK1 (some_eq h)
     obtain rfl := some_eq h
     exact Ends.rt Tryd.results22 rfl
    ·
     exact .skip (.blkNormal (Ends.j _ (some_eq h)))
   ·
    have h := resd_nx hK4 hj4
    exact .rn mx (.adi rfl (.mv rfl (.nil (Ends.ag (some_eq h)))))
  ·
   refine .exit (.thenExit (.thenExit (.blkExit ?_)))
   replace h := hD2 _ (some_eq h)
   exact Ends.j _ (some_eq h)
 ·
  have h := resb_nx hK1 hj1
  refine .sn mx (.asi (.nil (.ret ?_)))
  obtain rfl := some_eq h
  exact Ends.rt Tryd.results22 rfl

theorem ref_TextError_ok {s1 : Str} {r : Int}  (h : ref_TextError s1 = some r) : FSpec Tryd.prog 57 [rep s1] (rep r) := by
 unfold ref_TextError at h
 obtain ⟨r1, hv1, h⟩ := bind_some h
 obtain ⟨bad1, hv2, h⟩ := bnd_some h
 refine FSpec.i Tryd.func57 rfl Tryd.ntmps57 rfl (fun F => (.sn mx (.asi (.nil (.sn mx (.mv rfl (.c (.call .none (utf8_ValidString_ok hv1) (.cons (.s rfl) .nil)) (.c (.not .none (.s rfl)) (.ra hv2 rfl (.nil (.seq (.sn mx (.mv rfl (.c (.lenStr .none Tryd.underlying9 (.s rfl)) (.mvi (.nil ?_))))))))))))))))
 obtain ⟨j_3, h, hK3⟩ := bind_some h
 refine .thenJ (ι := Bool) (fun j_3 => [(3, ⟨True, rep j_3⟩)]) (fun j_3 => []) (fun s => j_3 = s) (.k 0 rfl .nil) SubB.nil ?_ (fun j_3' hj3 => ?_)
 ·
  refine .block (.rforL h (fun p4_ => [(10, ⟨True, rep p4_.1⟩), (3, ⟨True, rep p4_.2⟩)]) (fun p4_ => []) (.k2 10 3 rfl rfl .nil) SubB.nil (.k2 0 9 rfl rfl .nil) SubB.nil (fun p4_ o_4 h hD4 => (.sn mx (.lt rfl rfl (.nil (.seq (.cb rfl h (fun _ h => ?_) fun _ h => ?_)))))))
  ·
   refine .skip (.then (.seq ?_))
   obtain ⟨j_6, h, hK6⟩ := bind_some h
   unfold ref_TextError_L1 at h
   refine .thenJ (ι := Bool) (fun j_6 => [(3, ⟨True, rep j_6⟩)]) (fun j_6 => []) (fun s => j_6 = s) (.k2 0 9 rfl rfl (.k 10 rfl .nil)) SubB.nil ?_ (fun j_6' hj6 => ?_)
   ·
    obtain ⟨hn7, h⟩ := need_some h
    obtain ⟨hn8, h⟩ := need_some h
    obtain ⟨hn9, h⟩ := need_some h
    obtain ⟨bad2, hv10, h⟩ := bnd_some h
    exact .block (.sn mx (.mv rfl (.asn rfl (.nil (.rn mx (.mv rfl (.mv rfl (.mg rfl rfl rfl (.mg rfl rfl rfl (.c (.indexStr (.at rfl rfl) Tryd.underlying9 (.tmp rfl id) (.tmp rfl id) (fun hg => hn7 hg.2)) (.c (.klss (.at rfl rfl) (.tmp rfl id) .ki) (.c (.move (.at rfl rfl) (.tmp rfl id)) (.mg rfl rfl rfl (.mg rfl rfl rfl (.c (.indexStr (.at rfl rfl) Tryd.underlying9 (.tmp rfl id) (.tmp rfl id) (fun hg => hn8 hg.1.2 hg.2)) (.c (.kneq (.at rfl rfl) (.tmp rfl id) .ki) (.c (.pickAnd (.at rfl rfl) (.tmp rfl id) (.tmp rfl id)) (.po rfl rfl (.mv rfl (.mg rfl rfl rfl (.mg rfl rfl rfl (.c (.indexStr (.at rfl rfl) Tryd.underlying9 (.tmp rfl id) (.tmp rfl id) (fun hg => hn9 hg.2)) (.c (.keql (.at rfl rfl) (.tmp rfl id) .ki) (.po rfl rfl (.ra hv10 rfl (.nil (.blkNormal (Ends.j _ (some_eq h)))))))))))))))))))))))))))))
   ·
    subst hj6; have h := hK6; clear hK6
    exact .rn mx (.adi rfl (.mv rfl (.nil (Ends.ag (some_eq h)))))
  ·
   refine .exit (.thenExit (.thenExit (.blkExit ?_)))
   replace h := hD4 _ (some_eq h)
   exact Ends.j _ (some_eq h)
 ·
  subst hj3; have h := hK3; clear hK3
  obtain ⟨r2, hv11, h⟩ := bind_some h
  obtain ⟨r3, hv12, h⟩ := bind_some h
  obtain ⟨r4, hv13, h⟩ := bind_some h
  refine .sn mx (.mv rfl (.c (.lenStr .none Tryd.underlying9 (.s rfl)) (.c (.gt .none (.s rfl) .i) (.c (.call .none (ref_When_ok hv11) (.cons (.s rfl) (.cons .i .nil))) (.mv rfl (.c (.call .none (ref_When_ok hv12) (.cons (.s rfl) (.cons .i .nil))) (.c (.buildSlice (xs := [_, _]) .none sl71 ty23 hz23 (.cons (.s rfl) (.cons (.s rfl) .nil)) rfl (by decide)) (.c (.call .none (ref_First_ok hv13) (.cons (.s rfl) .nil)) (.asn rfl (.nil (.ret ?_)))))))))))
  obtain rfl := some_eq h
  exact Ends.rt Tryd.results57 rfl

theorem ref_opError_ok {x1 : DOp} {r : Int}  (h : ref_opError x1 = some r) : FSpec Tryd.prog 30 [rep x1] (rep r) := by
 unfold ref_opError at h
 obtain ⟨r1, hv1, h⟩ := bind_some h
 refine FSpec.i Tryd.func30 rfl Tryd.ntmps30 rfl (fun F => (.sn mx (.c (.box .none (.s rfl)) (.asi (.nil (.seq (.sn mx (.fa fd34_1 hfd34_1 rfl (.ld ty3 rfl (.c (.call .none (ref_In_ok hv1) (.cons (.s rfl) (.cons .i (.cons .i .nil)))) (.c (.not .none (.s rfl)) (.nil (.cb rfl h (fun _ h => ?_) fun _ h => ?_)))))))))))))
 ·
  refine .sn mx (.asi (.nil (.ret (.thenRet ?_))))
  obtain rfl := some_eq h
  exact Ends.rt Tryd.results30 rfl
 ·
  refine .skip (.then (.sn mx (.fa fd34_1 hfd34_1 rfl (.ld ty3 rfl (.nei rfl (.mv rfl (.fg fd34_3 hfd34_3 rfl rfl rfl (.lg ty9 rfl rfl rfl (.c (.neS (.at rfl rfl) (eqAt_str Tryd.underlying9) (.tmp rfl id) (.str (l := []) (by decide))) (.c (.move (.at rfl rfl) (.tmp rfl id)) (.fg fd34_4 hfd34_4 rfl rfl rfl (.lg ty9 rfl rfl rfl (.c (.neS (.at rfl rfl) (eqAt_str Tryd.underlying9) (.tmp rfl id) (.str (l := []) (by decide))) (.c (.pickOr (.at rfl rfl) (.tmp rfl id) (.tmp rfl id)) (.pa rfl rfl (.mv rfl (.fg fd34_1 hfd34_1 rfl rfl rfl (.lg ty3 rfl rfl rfl (.c (.eqI (.at rfl rfl) (.tmp rfl id) .i) (.c (.move (.at rfl rfl) (.tmp rfl id)) (.fg fd34_2 hfd34_2 rfl rfl rfl (.lg ty9 rfl rfl rfl (.c (.neS (.at rfl rfl) (eqAt_str Tryd.underlying9) (.tmp rfl id) (.str (l := []) (by decide))) (.c (.pickAnd (.at rfl rfl) (.tmp rfl id) (.tmp rfl id)) (.po rfl rfl (.mv rfl (.fg fd34_1 hfd34_1 rfl rfl rfl (.lg ty3 rfl rfl rfl (.c (.neI (.at rfl rfl) (.tmp rfl id) .i) (.c (.move (.at rfl rfl) (.tmp rfl id)) (.fg fd34_5 hfd34_5 rfl rfl rfl (.lg ty3 rfl rfl rfl (.c (.neI (.at rfl rfl) (.tmp rfl id) .i) (.c (.pickAnd (.at rfl rfl) (.tmp rfl id) (.tmp rfl id)) (.po rfl rfl (.asn rfl (.nil (.seq (.sn mx (.mv rfl (.nil (.cb rfl h (fun _ h => ?_) fun _ h => ?_))))))))))))))))))))))))))))))))))))))))))
  ·
   refine .sn mx (.asi (.nil (.ret (.thenRet ?_))))
   obtain rfl := some_eq h
   exact Ends.rt Tryd.results30 rfl
  ·
   refine .skip (.then (.seq (.sn mx (.fa fd34_1 hfd34_1 rfl (.ld ty3 rfl (.eqi rfl (.nil (.cb rfl h (fun _ h => ?_) fun _ h => ?_))))))))
   ·
    obtain ⟨r2, hv5, h⟩ := bind_some h
    obtain ⟨r3, hv6, h⟩ := bind_some h
    refine .sn mx (.fa fd34_5 hfd34_5 rfl (.ld ty3 rfl (.fa fd34_0 hfd34_0 rfl (.fa fd32_2 hfd32_2 rfl (.ld ty3 rfl (.c (.subW .none (.s rfl) .i) (.c (.call .none (ref_In_ok hv5) (.cons (.s rfl) (.cons .i (.cons (.s rfl) .nil)))) (.c (.not .none (.s rfl)) (.c (.call .none (ref_When_ok hv6) (.cons (.s rfl) (.cons .i .nil))) (.asn rfl (.nil (.ret (.thenRet ?_)))))))))))))
    obtain rfl := some_eq h
    exact Ends.rt Tryd.results30 rfl
   ·
    obtain ⟨r4, hv7, h⟩ := bind_some h
    obtain ⟨r5, hv8, h⟩ := bind_some h
    refine .skip (.then (.sn mx (.fa fd34_2 hfd34_2 rfl (.ld ty9 rfl (.c (.call .none (ref_NameOf_ok hv7) (.cons (.s rfl) .nil)) (.c (.not .none (.s rfl)) (.mv rfl (.fg fd34_1 hfd34_1 rfl rfl rfl (.lg ty3 rfl rfl rfl (.c (.eqI (.at rfl rfl) (.tmp rfl id) .i) (.c (.move (.at rfl rfl) (.tmp rfl id)) (.fg fd34_3 hfd34_3 rfl rfl rfl (.lg ty9 rfl rfl rfl (.c (.callIf (.at rfl rfl) fnok28 (fun hg => ref_NameOf_ok ((fun hg => gd_some hv8 ((andT (notT hg.1.2) hg.2))) hg)) (.cons (.tmp rfl id) .nil) (fun h => h)) ?_))))))))))))))
    obtain ⟨r6, hv9, h⟩ := bind_some h
    obtain ⟨r7, hv10, h⟩ := bind_some h
    obtain ⟨r8, hv11, h⟩ := bind_some h
    refine .c (.not (.at rfl rfl) (.tmp rfl id)) (.c (.pickAnd (.at rfl rfl) (.tmp rfl id) (.tmp rfl id)) (.po rfl rfl (.c (.call .none (ref_When_ok hv9) (.cons (.s rfl) (.cons .i .nil))) (.fa fd34_4 hfd34_4 rfl (.ld ty9 rfl (.c (.call .none (ref_TextError_ok hv10) (.cons (.s rfl) .nil)) (.c (.buildSlice (xs := [_, _]) .none sl71 ty23 hz23 (.cons (.s rfl) (.cons (.s rfl) .nil)) rfl (by decide)) (.c (.call .none (ref_First_ok hv11) (.cons (.s rfl) .nil)) (.asn rfl (.nil (.ret ?_)))))))))))
    obtain rfl := some_eq h
    exact Ends.rt Tryd.results30 rfl

theorem ref_OpsError_ok {l1 : (List DOp)} {r : Int}  (h : ref_OpsError l1 = some r) : FSpec Tryd.prog 5 [rep l1] (rep r) := by
 unfold ref_OpsError at h
 refine FSpec.i Tryd.func5 rfl Tryd.ntmps5 rfl (fun F => (.sn mx (.asi (.nil (.seq (.sn mx (.mv rfl (.ln sl22 rfl (.c (.gt .none (.s rfl) .i) (.nil (.cb rfl h (fun _ h => ?_) fun _ h => ?_)))))))))))
 ·
  refine .sn mx (.asi (.nil (.ret (.thenRet ?_))))
  obtain rfl := some_eq h
  exact Ends.rt Tryd.results5 rfl
 ·
  obtain ⟨v1, hv2, h⟩ := bnd_some h
  refine .skip (.then (.sr [oo, ([], [3]), ([3], [3])] mx (.cA (.re hv2 (.buildF (y := (⟨(⟨(0 : Int), Str.nil, (0 : Int)⟩ : Stamp), (0 : Int), Str.nil, Str.nil, Str.nil, (0 : Int)⟩ : DOp)) .none bu34 zc34 rfl .nil .nil)) (.al zo34 rfl (.st ty34 rfl rfl rfl (.nil (.nameBox (t := 3) (g := 5001) rfl rfl (fun m5001 => (.seq (.sn mx (.mv rfl (.ln sl22 rfl (.mvi (.nil ?_))))))))))))))
  obtain ⟨o_3, h, hK3⟩ := bindR_some h
  refine .thenJ (ι := DOp) (fun j_3 => []) (fun j_3 => [(5001, some (boxAt m5001 34 j_3))]) (fun s => o_3 = Res.nx s) (.k 3 rfl .nil) SubB.nil ?_ (fun j_3 hj3 => ?_)
  ·
   refine .block (.rforEL h (fun p4_ => [(14, ⟨True, rep p4_.1⟩)]) (fun p4_ => [(5001, some (boxAt m5001 34 p4_.2))]) (.k 14 rfl .nil) (.k 5001 rfl .nil) (.k4 0 3 12 13 rfl rfl rfl rfl .nil) SubB.nil (fun p4_ o_4 h hD4 => (.sn mx (.lt rfl rfl (.nil (.seq (.cb rfl h (fun _ h => ?_) fun _ h => ?_)))))))
   ·
    refine .skip (.then (.seq ?_))
    obtain ⟨o_6, h, hK6⟩ := bindD_some h
    unfold ref_OpsError_L1 at h
    refine .thenJ (ι := DOp) (fun j_6 => []) (fun j_6 => [(5001, some (boxAt m5001 34 j_6))]) (fun s => o_6 = Res.nx s) (.k4 0 3 12 13 rfl rfl rfl rfl (.k 14 rfl .nil)) SubB.nil ?_ (fun j_6 hj6 => ?_)
    ·
     obtain ⟨hn7, h⟩ := need_some h
     obtain ⟨v2, hv8, h⟩ := bnd_some h
     refine .block (.sr [oo, oo, oo, ([], [5]), oo, ([5], [5])] mx (.mvA rfl (.ixA sl22 ty34 rfl rfl hn7 (.rlA hv8 ty34 rfl (.al zo34 rfl (.asnA rfl (.st ty34 rfl rfl rfl (.nil (.freeze (t := 5) rfl rfl (.k 5001 rfl .nil) rfl (.seq (.sr [oo, oo, oo, oo, oo, ([5001], []), oo] mx (.faA fd34_0 hfd34_0 rfl (.faA fd32_1 hfd32_1 rfl (.ldA ty9 rfl (.cA (.fieldPtr .none fd34_0 (.s rfl)) (.cA (.fieldPtr .none fd32_1 (.s rfl)) (.cA (.loadAt (k := 5001) .none ty9 rfl (.s rfl) (HasField.comp (o2 := 1) hfd34_0 hfd32_1)) (.cA (.neS .none (eqAt_str Tryd.underlying9) (.s rfl) (.s rfl)) (.nil ?_)))))))))))))))))))
     obtain ⟨j_9, h, hK9⟩ := bind_some h
     refine .thenJ (ι := DOp) (fun j_9 => []) (fun j_9 => [(5001, some (boxAt m5001 34 j_9))]) (fun s => j_9 = s) (.k4 0 3 4 5 rfl rfl rfl rfl (.k2 12 13 rfl rfl (.k 14 rfl .nil))) SubB.nil ?_ (fun j_9' hj9 => ?_)
     ·
      refine .cb rfl h (fun _ h => ?_) fun _ h => ?_
      ·
       exact .rg [oo, oo, ([5001], [5001]), oo, oo, ([5001], [5001])] mx (.cA (.fieldPtr .none fd34_0 (.s rfl)) (.cA (.fieldPtr .none fd32_2 (.s rfl)) (.cN (.storeAt (g := 5001) ty3 rfl (.s rfl) (SetField.comp (o2 := 2) hfd34_0 sf34_0 sf32_2) .i) (.cA (.fieldPtr .none fd34_0 (.s rfl)) (.cA (.fieldPtr .none fd32_0 (.s rfl)) (.cN (.storeAt (g := 5001) ty3 rfl (.s rfl) (SetField.comp (o2 := 0) hfd34_0 sf34_0 sf32_0) .i) (.nil (Ends.j _ (some_eq h)))))))))
      ·
       exact .skip (Ends.j _ (some_eq h))
     ·
      subst hj9; have h := hK9; clear hK9
      obtain ⟨r1, hv11, h⟩ := bind_some h
      refine .sr [oo, oo, oo, oo, ([5001], []), oo, oo, oo, oo] mx (.mvA rfl (.cA (.gt .none (.s rfl) .i) (.mvA rfl (.cA (.load (.at rfl rfl) ty34 (.s rfl)) (.cA (.loadAt0 (k := 5001) (.at rfl rfl) ty34 rfl (.s rfl)) (.cA (.callIf (.at rfl rfl) fnok26 (fun hg => ref_byOp_ok ((fun hg => gd_some hv11 (hg.2)) hg)) (.cons (.tmp rfl id) (.cons (.tmp rfl id) .nil)) (fun h => h)) (.cA (.le (.at rfl rfl) (.tmp rfl id) .i) (.cA (.pickAnd .none (.s rfl) (.tmp rfl id)) (.asnA rfl (.nil (.seq (.sr [oo, oo, oo, oo, oo, ([5001], []), oo, oo, oo, oo, oo] mx (.faA fd34_0 hfd34_0 rfl (.faA fd32_1 hfd32_1 rfl (.ldA ty9 rfl (.cA (.fieldPtr .none fd34_0 (.s rfl)) (.cA (.fieldPtr .none fd32_1 (.s rfl)) (.cA (.loadAt (k := 5001) .none ty9 rfl (.s rfl) (HasField.comp (o2 := 1) hfd34_0 hfd32_1)) (.cA (.neS .none (eqAt_str Tryd.underlying9) (.s rfl) (.s rfl)) (.mvA rfl (.cA (.move (.at rfl rfl) (.s rfl)) (.cA (.gt (.at rfl rfl) (.tmp rfl id) .i) (.cA (.pickAnd .none (.s rfl) (.tmp rfl id)) (.nil ?_))))))))))))))))))))))))
      obtain ⟨j_12, h, hK12⟩ := bind_some h
      refine .thenJ (ι := Bool) (fun j_12 => [(6, ⟨True, rep j_12⟩)]) (fun j_12 => []) (fun s => j_12 = s) (.k4 0 3 5 12 rfl rfl rfl rfl (.k2 13 14 rfl rfl .nil)) (.k 5001 rfl .nil) ?_ (fun j_12' hj12 => ?_)
      ·
       refine .cb rfl h (fun _ h => ?_) fun _ h => ?_
       ·
        obtain ⟨hn14, h⟩ := need_some h
        exact .rn mx (.fa fd34_0 hfd34_0 rfl (.fa fd32_1 hfd32_1 rfl (.ld ty9 rfl (.mv rfl (.mv rfl (.c (.subW .none (.s rfl) .i) (.ix sl22 ty34 rfl rfl hn14 (.fa fd34_0 hfd34_0 rfl (.fa fd32_1 hfd32_1 rfl (.ld ty9 rfl (.c (.ltStr .none (.s rfl) (.s rfl)) (.asn rfl (.nil (Ends.j _ (some_eq h)))))))))))))))
       ·
        exact .skip (Ends.j _ (some_eq h))
      ·
       subst hj12; have h := hK12; clear hK12
       obtain ⟨r2, hv15, h⟩ := bind_some h
       obtain ⟨r3, hv16, h⟩ := bind_some h
       obtain ⟨r4, hv17, h⟩ := bind_some h
       obtain ⟨r5, hv18, h⟩ := bind_some h
       refine .sr [oo, oo, oo, oo, oo, oo, oo, oo, oo, oo, oo, oo, oo, ([5001], []), oo, oo, oo, oo, oo, oo, oo, oo, oo, oo, oo, oo, oo, oo, oo, ([5001], []), oo, oo, oo, oo, oo, oo, oo] mx (.faA fd34_0 hfd34_0 rfl (.faA fd32_1 hfd32_1 rfl (.ldA ty9 rfl (.cA (.call .none (ref_NameOf_ok hv15) (.cons (.s rfl) .nil)) (.cA (.not .none (.s rfl)) (.cA (.call .none (ref_When_ok hv16) (.cons (.s rfl) (.cons .i .nil))) (.mvA rfl (.cA (.call .none (ref_When_ok hv17) (.cons (.s rfl) (.cons .i .nil))) (.faA fd34_0 hfd34_0 rfl (.faA fd32_2 hfd32_2 rfl (.ldA ty3 rfl (.cA (.fieldPtr .none fd34_0 (.s rfl)) (.cA (.fieldPtr .none fd32_2 (.s rfl)) (.cA (.loadAt (k := 5001) .none ty3 rfl (.s rfl) (HasField.comp (o2 := 2) hfd34_0 hfd32_2)) (.cA (.addW .none (.s rfl) .i) (.cA (.neI .none (.s rfl) (.s rfl)) (.mvA rfl (.cA (.fieldAddr (.at rfl rfl) fd34_0 hfd34_0 (.s rfl)) (.cA (.fieldAddr (.at rfl rfl) fd32_0 hfd32_0 (.tmp rfl id)) (.cA (.load (.at rfl rfl) ty3 (.tmp rfl id)) (.cA (.callIf (.at rfl rfl) fnok29 (fun hg => ref_In_ok ((fun hg => gd_some hv18 ((notT hg.2))) hg)) (.cons (.tmp rfl id) (.cons .i (.cons .i .nil))) (fun h => h)) ?_)))))))))))))))))))))
       obtain ⟨r6, hv19, h⟩ := bind_some h
       obtain ⟨r7, hv20, h⟩ := bind_some h
       obtain ⟨r8, hv21, h⟩ := bind_some h
       obtain ⟨e1, hv22, h⟩ := bind_some h
       refine .cA (.not (.at rfl rfl) (.tmp rfl id)) (.cA (.pickOr .none (.s rfl) (.tmp rfl id)) (.cA (.call .none (ref_When_ok hv19) (.cons (.s rfl) (.cons .i .nil))) (.faA fd34_0 hfd34_0 rfl (.faA fd32_0 hfd32_0 rfl (.ldA ty3 rfl (.cA (.fieldPtr .none fd34_0 (.s rfl)) (.cA (.fieldPtr .none fd32_0 (.s rfl)) (.cA (.loadAt (k := 5001) .none ty3 rfl (.s rfl) (HasField.comp (o2 := 0) hfd34_0 hfd32_0)) (.cA (.le .none (.s rfl) (.s rfl)) (.cA (.call .none (ref_When_ok hv20) (.cons (.s rfl) (.cons .i .nil))) (.ldA ty34 rfl (.cA (.call .none (ref_opError_ok hv21) (.cons (.s rfl) .nil)) (.cA (.buildSlice (xs := [_, _, _, _, _]) .none sl71 ty23 hz23 (.cons (.s rfl) (.cons (.s rfl) (.cons (.s rfl) (.cons (.s rfl) (.cons (.s rfl) .nil))))) rfl (by decide)) (.cA (.call .none (ref_First_ok hv22) (.cons (.s rfl) .nil)) (.asnA rfl (.nil (.seq (.sn mx (.mv rfl (.nei rfl (.nil (.cb rfl h (fun _ h => ?_) fun _ h => ?_))))))))))))))))))))))
       ·
        refine .sn mx (.mv rfl (.asn rfl (.nil (.ret (.thenRet (.blkRet (.thenRet (.thenRet (.blkRet (.thenRet ?_))))))))))
        replace h := resd_ab hK6 (some_eq h)
        replace h := hD4 _ (some_eq h)
        replace h := resb_ab hK3 (some_eq h)
        obtain rfl := some_eq h
        exact Ends.rt Tryd.results5 rfl
       ·
        exact .skip (.then (.rg [oo, ([5001], [5001])] mx (.ldA ty34 rfl (.s0 5001 ty34 rfl rfl rfl (.nil (.blkNormal (Ends.j _ (some_eq h))))))))
    ·
     have h := resd_nx hK6 hj6
     exact .rn mx (.adi rfl (.mv rfl (.nil (Ends.ag (some_eq h)))))
   ·
    refine .exit (.thenExit (.thenExit (.blkExit ?_)))
    replace h := hD4 _ (some_eq h)
    exact Ends.j _ (some_eq h)
  ·
   have h := resb_nx hK3 hj3
   refine .sn mx (.asi (.nil (.ret ?_)))
   obtain rfl := some_eq h
   exact Ends.rt Tryd.results5 rfl

theorem edit_isName_ok {s1 : Str} {r : Bool}  (h : edit_isName s1 = some r) : FSpec Tryd.prog 32 [rep s1] (rep r) := by
 unfold edit_isName at h
 obtain ⟨hn1, h⟩ := need_some h
 obtain ⟨hn2, h⟩ := need_some h
 obtain ⟨r1, hv3, h⟩ := bind_some h
 refine FSpec.i Tryd.func32 rfl Tryd.ntmps32 rfl (fun F => (.sn mx (.asb (.nil (.sn mx (.mv rfl (.c (.neS .none (eqAt_str Tryd.underlying9) (.s rfl) (.str (l := []) (by decide))) (.mv rfl (.mg rfl rfl rfl (.c (.lenStr (.at rfl rfl) Tryd.underlying9 (.tmp rfl id)) (.c (.le (.at rfl rfl) (.tmp rfl id) .i) (.pa rfl rfl (.mv rfl (.mg rfl rfl rfl (.c (.indexStr (.at rfl rfl) Tryd.underlying9 (.tmp rfl id) .i (fun hg => hn1 hg.2)) (.c (.kgeq (.at rfl rfl) (.tmp rfl id) .ki) (.pa rfl rfl (.mv rfl (.mg rfl rfl rfl (.c (.indexStr (.at rfl rfl) Tryd.underlying9 (.tmp rfl id) .i (fun hg => hn2 hg.2)) (.c (.kleq (.at rfl rfl) (.tmp rfl id) .ki) (.pa rfl rfl (.mv rfl (.mg rfl rfl rfl (.c (.callIf (.at rfl rfl) fnok59 (fun hg => strings_Trim_ok ((fun hg => gd_some hv3 (hg.2)) hg)) (.cons (.tmp rfl id) (.cons (.str (l := [97, 98, 99, 100, 101, 102, 103, 104, 105, 106, 107, 108, 109, 110, 111, 112, 113, 114, 115, 116, 117, 118, 119, 120, 121, 122, 48, 49, 50, 51, 52, 53, 54, 55, 56, 57, 45]) (by decide)) .nil)) (fun h => h)) (.c (.eqS (.at rfl rfl) (eqAt_str Tryd.underlying9) (.tmp rfl id) (.str (l := []) (by decide))) (.pa rfl rfl (.asn rfl (.nil (.ret ?_))))))))))))))))))))))))))))))
 obtain rfl := some_eq h
 exact Ends.rt Tryd.results32 rfl

theorem edit_order_ok {a1 : DOp} {b1 : DOp} {r : Int}  (h : edit_order a1 b1 = some r) : FSpec Tryd.prog 43 [rep a1, rep b1] (rep r) := by
 unfold edit_order at h
 obtain ⟨r1, hv1, h⟩ := bind_some h
 obtain ⟨r2, hv2, h⟩ := bind_some h
 obtain ⟨r3, hv3, h⟩ := bind_some h
 refine FSpec.i Tryd.func43 rfl Tryd.ntmps43 rfl (fun F => (.sn mx (.c (.box .none (.s rfl)) (.c (.box .none (.s rfl)) (.asi (.nil (.sn mx (.fa fd34_0 hfd34_0 rfl (.fa fd32_1 hfd32_1 rfl (.ld ty9 rfl (.fa fd34_0 hfd34_0 rfl (.fa fd32_1 hfd32_1 rfl (.ld ty9 rfl (.c (.call .none (strings_Compare_ok hv1) (.cons (.s rfl) (.cons (.s rfl) .nil))) (.fa fd34_0 hfd34_0 rfl (.fa fd32_2 hfd32_2 rfl (.ld ty3 rfl (.fa fd34_0 hfd34_0 rfl (.fa fd32_2 hfd32_2 rfl (.ld ty3 rfl (.c (.call .none (cmp_Compare_int_ok hv2) (.cons (.s rfl) (.cons (.s rfl) .nil))) (.c (.buildSlice (xs := [_, _]) .none sl90 ty3 hz3 (.cons (.s rfl) (.cons (.s rfl) .nil)) rfl (by decide)) (.c (.call .none (cmp_Or_int_ok hv3) (.cons (.s rfl) .nil)) (.asn rfl (.nil (.ret ?_))))))))))))))))))))))))))
 obtain rfl := some_eq h
 exact Ends.rt Tryd.results43 rfl

theorem shape_CheckText_ok {s1 : Str} {r : Int}  (h : shape_CheckText s1 = some r) : FSpec Tryd.prog 72 [rep s1] (rep r) := by
 unfold shape_CheckText at h
 refine FSpec.i Tryd.func72 rfl Tryd.ntmps72 rfl (fun F => (.sn mx (.asi (.nil (.seq (.sn mx (.mv rfl (.c (.lenStr .none Tryd.underlying9 (.s rfl)) (.c (.gt .none (.s rfl) .i) (.nil (.cb rfl h (fun _ h => ?_) fun _ h => ?_)))))))))))
 ·
  refine .sn mx (.asi (.nil (.ret (.thenRet ?_))))
  obtain rfl := some_eq h
  exact Ends.rt Tryd.results72 rfl
 ·
  obtain ⟨r1, hv2, h⟩ := bind_some h
  refine .skip (.then (.seq (.sn mx (.mv rfl (.c (.call .none (utf8_ValidString_ok hv2) (.cons (.s rfl) .nil)) (.c (.not .none (.s rfl)) (.nil (.cb rfl h (fun _ h => ?_) fun _ h => ?_))))))))
  ·
   refine .sn mx (.asi (.nil (.ret (.thenRet ?_))))
   obtain rfl := some_eq h
   exact Ends.rt Tryd.results72 rfl
  ·
   refine .skip (.then (.seq (.sn mx (.mv rfl (.c (.lenStr .none Tryd.underlying9 (.s rfl)) (.mvi (.nil ?_)))))))
   obtain ⟨o_4, h, hK4⟩ := bindR_some h
   refine .tJ (fun s => o_4 = Res.nx s) Sub.nil SubB.nil ?_ (fun j_4 hj4 => ?_)
   ·
    refine .block (.rforEL h (fun p5_ => [(12, ⟨True, rep p5_.1⟩)]) (fun p5_ => []) (.k 12 rfl .nil) SubB.nil (.k2 0 11 rfl rfl .nil) SubB.nil (fun p5_ o_5 h hD5 => (.sn mx (.lt rfl rfl (.nil (.seq (.cb rfl h (fun _ h => ?_) fun _ h => ?_)))))))
    ·
     refine .skip (.then (.seq ?_))
     obtain ⟨o_7, h, hK7⟩ := bindD_some h
     unfold shape_CheckText_L1 at h
     refine .tJ (fun s => o_7 = Res.nx s) (.k2 0 11 rfl rfl (.k 12 rfl .nil)) SubB.nil ?_ (fun j_7 hj7 => ?_)
     ·
      obtain ⟨hn8, h⟩ := need_some h
      obtain ⟨hn9, h⟩ := need_some h
      obtain ⟨hn10, h⟩ := need_some h
      refine .block (.sn mx (.mv rfl (.asn rfl (.nil (.sn mx (.mv rfl (.mv rfl (.c (.indexStr .none Tryd.underlying9 (.s rfl) (.s rfl) (fun _ => hn8)) (.c (.klss .none (.s rfl) .ki) (.mv rfl (.mg rfl rfl rfl (.mg rfl rfl rfl (.c (.indexStr (.at rfl rfl) Tryd.underlying9 (.tmp rfl id) (.tmp rfl id) (fun hg => hn9 hg.2)) (.c (.kneq (.at rfl rfl) (.tmp rfl id) .ki) (.pa rfl rfl (.mv rfl (.mg rfl rfl rfl (.mg rfl rfl rfl (.c (.indexStr (.at rfl rfl) Tryd.underlying9 (.tmp rfl id) (.tmp rfl id) (fun hg => hn10 hg.2)) (.c (.keql (.at rfl rfl) (.tmp rfl id) .ki) (.po rfl rfl (.nil (.cb rfl h (fun _ h => ?_) fun _ h => ?_)))))))))))))))))))))))
      ·
       refine .sn mx (.asi (.nil (.ret (.blkRet (.thenRet (.thenRet (.blkRet (.thenRet ?_))))))))
       replace h := resd_ab hK7 (some_eq h)
       replace h := hD5 _ (some_eq h)
       replace h := resb_ab hK4 (some_eq h)
       obtain rfl := some_eq h
       exact Ends.rt Tryd.results72 rfl
      ·
       exact .skip (.blkNormal (Ends.j _ (some_eq h)))
     ·
      have h := resd_nx hK7 hj7
      exact .rn mx (.adi rfl (.mv rfl (.nil (Ends.ag (some_eq h)))))
    ·
     refine .exit (.thenExit (.thenExit (.blkExit ?_)))
     replace h := hD5 _ (some_eq h)
     exact Ends.j _ (some_eq h)
   ·
    have h := resb_nx hK4 hj4
    refine .sn mx (.asi (.nil (.ret ?_)))
    obtain rfl := some_eq h
    exact Ends.rt Tryd.results72 rfl

theorem edit_checkBody_ok {x1 : DOp} {r : Int}  (h : edit_checkBody x1 = some r) : FSpec Tryd.prog 58 [rep x1] (rep r) := by
 unfold edit_checkBody at h
 refine FSpec.i Tryd.func58 rfl Tryd.ntmps58 rfl (fun F => (.sn mx (.c (.box .none (.s rfl)) (.asi (.nil (.seq (.sn mx (.fa fd34_1 hfd34_1 rfl (.ld ty3 rfl (.c (.lt .none (.s rfl) .i) (.mv rfl (.fg fd34_1 hfd34_1 rfl rfl rfl (.lg ty3 rfl rfl rfl (.c (.gt (.at rfl rfl) (.tmp rfl id) .i) (.po rfl rfl (.nil (.cb rfl h (fun _ h => ?_) fun _ h => ?_)))))))))))))))))
 ·
  refine .sn mx (.asi (.nil (.ret (.thenRet ?_))))
  obtain rfl := some_eq h
  exact Ends.rt Tryd.results58 rfl
 ·
  obtain ⟨set1, hv2, h⟩ := bnd_some h
  obtain ⟨undo1, hv3, h⟩ := bnd_some h
  obtain ⟨v1, hv4, h⟩ := bnd_some h
  refine .skip (.then (.sn mx (.fa fd34_1 hfd34_1 rfl (.ld ty3 rfl (.eqi rfl (.fa fd34_1 hfd34_1 rfl (.ld ty3 rfl (.eqi rfl (.ra hv2 rfl (.ra hv3 rfl (.nil (.seq (.block (.seq (.sn mx (.fa fd34_5 hfd34_5 rfl (.ld ty3 rfl (.nei rfl (.mv rfl (.mg rfl rfl rfl (.c (.not (.at rfl rfl) (.tmp rfl id)) (.pa rfl rfl (.ra hv4 rfl (.nil ?_))))))))))))))))))))))))
  obtain ⟨j_5, h, hK5⟩ := bind_some h
  refine .thenJ (ι := Bool) (fun j_5 => [(20, ⟨True, rep j_5⟩)]) (fun j_5 => []) (fun s => j_5 = s) (.k2 1 3 rfl rfl (.k 4 rfl .nil)) SubB.nil ?_ (fun j_5' hj5 => ?_)
  ·
   refine .cb rfl h (fun _ h => ?_) fun _ h => ?_
   ·
    exact .skip (Ends.j _ (some_eq h))
   ·
    obtain ⟨v2, hv7, h⟩ := bnd_some h
    refine .sn mx (.fa fd34_2 hfd34_2 rfl (.ld ty9 rfl (.c (.neS .none (eqAt_str Tryd.underlying9) (.s rfl) (.str (l := []) (by decide))) (.mv rfl (.mg rfl rfl rfl (.pa rfl rfl (.ra hv7 rfl (.nil (.cb rfl h (fun _ h => ?_) fun _ h => ?_)))))))))
    ·
     exact .skip (Ends.j _ (some_eq h))
    ·
     obtain ⟨v3, hv9, h⟩ := bnd_some h
     exact .rn mx (.fa fd34_3 hfd34_3 rfl (.ld ty9 rfl (.c (.neS .none (eqAt_str Tryd.underlying9) (.s rfl) (.str (l := []) (by decide))) (.mv rfl (.fg fd34_4 hfd34_4 rfl rfl rfl (.lg ty9 rfl rfl rfl (.c (.neS (.at rfl rfl) (eqAt_str Tryd.underlying9) (.tmp rfl id) (.str (l := []) (by decide))) (.po rfl rfl (.mv rfl (.mg rfl rfl rfl (.c (.not (.at rfl rfl) (.tmp rfl id)) (.pa rfl rfl (.ra hv9 rfl (.nil (Ends.j _ (some_eq h))))))))))))))))
  ·
   subst hj5; have h := hK5; clear hK5
   refine .cb rfl h (fun _ h => ?_) fun _ h => ?_
   ·
    refine .sn mx (.asi (.nil (.ret (.blkRet (.thenRet ?_)))))
    obtain rfl := some_eq h
    exact Ends.rt Tryd.results58 rfl
   ·
    obtain ⟨r1, hv11, h⟩ := bind_some h
    refine .seq (.sn mx (.mv rfl (.c (.not .none (.s rfl)) (.mv rfl (.fg fd34_2 hfd34_2 rfl rfl rfl (.lg ty9 rfl rfl rfl (.c (.callIf (.at rfl rfl) fnok32 (fun hg => edit_isName_ok ((fun hg => gd_some hv11 (hg.2)) hg)) (.cons (.tmp rfl id) .nil) (fun h => h)) ?_)))))))
    obtain ⟨v4, hv12, h⟩ := bnd_some h
    refine .c (.not (.at rfl rfl) (.tmp rfl id)) (.pa rfl rfl (.ra hv12 rfl (.nil ?_)))
    obtain ⟨j_13, h, hK13⟩ := bind_some h
    refine .thenJ (ι := Bool) (fun j_13 => [(46, ⟨True, rep j_13⟩)]) (fun j_13 => []) (fun s => j_13 = s) (.k2 1 3 rfl rfl (.k 4 rfl .nil)) SubB.nil ?_ (fun j_13' hj13 => ?_)
    ·
     refine .cb rfl h (fun _ h => ?_) fun _ h => ?_
     ·
      exact .skip (Ends.j _ (some_eq h))
     ·
      obtain ⟨r2, hv15, h⟩ := bind_some h
      refine .rn mx (.mv rfl (.mv rfl (.fg fd34_3 hfd34_3 rfl rfl rfl (.lg ty9 rfl rfl rfl (.c (.callIf (.at rfl rfl) fnok32 (fun hg => edit_isName_ok ((fun hg => gd_some hv15 (hg.2)) hg)) (.cons (.tmp rfl id) .nil) (fun h => h)) ?_)))))
      obtain ⟨v5, hv16, h⟩ := bnd_some h
      exact .c (.not (.at rfl rfl) (.tmp rfl id)) (.pa rfl rfl (.ra hv16 rfl (.nil (Ends.j _ (some_eq h)))))
    ·
     subst hj13; have h := hK13; clear hK13
     refine .cb rfl h (fun _ h => ?_) fun _ h => ?_
     ·
      refine .sn mx (.asi (.nil (.ret (.blkRet (.thenRet ?_)))))
      obtain rfl := some_eq h
      exact Ends.rt Tryd.results58 rfl
     ·
      refine .skip (.blkNormal (.then (.seq (.sn mx (.mv rfl (.nil ?_))))))
      obtain ⟨o_18, h, hK18⟩ := bindR_some h
      refine .tJ (fun s => o_18 = Res.nx s) (.k2 1 4 rfl rfl .nil) SubB.nil ?_ (fun j_18 hj18 => ?_)
      ·
       refine .cb rfl h (fun _ h => ?_) fun _ h => ?_
       ·
        obtain ⟨e1, hv20, h⟩ := bind_some h
        refine .sn mx (.fa fd34_4 hfd34_4 rfl (.ld ty9 rfl (.c (.call .none (shape_CheckText_ok hv20) (.cons (.s rfl) .nil)) (.asn rfl (.nil (.sn mx (.mv rfl (.nei rfl (.nil (.cb rfl h (fun _ h => ?_) fun _ h => ?_))))))))))
        ·
         refine .sn mx (.mv rfl (.asn rfl (.nil (.ret (.thenRet ?_)))))
         replace h := resb_ab hK18 (some_eq h)
         obtain rfl := some_eq h
         exact Ends.rt Tryd.results58 rfl
        ·
         exact .skip (Ends.j _ (some_eq h))
       ·
        exact .skip (Ends.j _ (some_eq h))
      ·
       have h := resb_nx hK18 hj18
       refine .seq (.sn mx (.mv rfl (.mv rfl (.fg fd34_5 hfd34_5 rfl rfl rfl (.lg ty3 rfl rfl rfl (.c (.lt (.at rfl rfl) (.tmp rfl id) .i) (.c (.move (.at rfl rfl) (.tmp rfl id)) (.fg fd34_5 hfd34_5 rfl rfl rfl (.lg ty3 rfl rfl rfl (.fg fd34_0 hfd34_0 rfl rfl rfl (.c (.fieldAddr (.at rfl rfl) fd32_2 hfd32_2 (.tmp rfl id)) (.lg ty3 rfl rfl rfl (.c (.subW (.at rfl rfl) (.tmp rfl id) .i) (.c (.gt (.at rfl rfl) (.tmp rfl id) (.tmp rfl id)) (.c (.pickOr (.at rfl rfl) (.tmp rfl id) (.tmp rfl id)) (.pa rfl rfl (.nil (.cb rfl h (fun _ h => ?_) fun _ h => ?_))))))))))))))))))
       ·
        refine .sn mx (.asi (.nil (.ret (.thenRet ?_))))
        obtain rfl := some_eq h
        exact Ends.rt Tryd.results58 rfl
       ·
        refine .skip (.then (.sn mx (.asi (.nil (.ret ?_)))))
        obtain rfl := some_eq h
        exact Ends.rt Tryd.results58 rfl

theorem edit_Check_ok {l1 : (List DOp)} {r : Int}  (h : edit_Check l1 = some r) : FSpec Tryd.prog 31 [rep l1] (rep r) := by
 unfold edit_Check at h
 refine FSpec.i Tryd.func31 rfl Tryd.ntmps31 rfl (fun F => (.sn mx (.asi (.nil (.seq (.sn mx (.mv rfl (.ln sl22 rfl (.c (.gt .none (.s rfl) .i) (.nil (.cb rfl h (fun _ h => ?_) fun _ h => ?_)))))))))))
 ·
  refine .sn mx (.asi (.nil (.ret (.thenRet ?_))))
  obtain rfl := some_eq h
  exact Ends.rt Tryd.results31 rfl
 ·
  refine .skip (.then (.seq (.sn mx (.mv rfl (.ln sl22 rfl (.mvi (.nil ?_)))))))
  obtain ⟨o_2, h, hK2⟩ := bindR_some h
  refine .tJ (fun s => o_2 = Res.nx s) Sub.nil SubB.nil ?_ (fun j_2 hj2 => ?_)
  ·
   refine .block (.rforEL h (fun p3_ => [(12, ⟨True, rep p3_.1⟩)]) (fun p3_ => []) (.k 12 rfl .nil) SubB.nil (.k2 0 10 rfl rfl (.k 11 rfl .nil)) SubB.nil (fun p3_ o_3 h hD3 => (.sn mx (.lt rfl rfl (.nil (.seq (.cb rfl h (fun _ h => ?_) fun _ h => ?_)))))))
   ·
    refine .skip (.then (.seq ?_))
    obtain ⟨o_5, h, hK5⟩ := bindD_some h
    unfold edit_Check_L1 at h
    refine .tJ (fun s => o_5 = Res.nx s) (.k4 0 10 11 12 rfl rfl rfl rfl .nil) SubB.nil ?_ (fun j_5 hj5 => ?_)
    ·
     obtain ⟨hn6, h⟩ := need_some h
     obtain ⟨v1, hv7, h⟩ := bnd_some h
     obtain ⟨v2, hv8, h⟩ := bnd_some h
     obtain ⟨hn9, h⟩ := need_some h
     refine .block (.sr [oo, oo, oo, ([], [4]), oo, ([4], [4])] mx (.mvA rfl (.ixA sl22 ty34 rfl rfl hn6 (.rlA hv7 ty34 rfl (.al zo34 rfl (.asnA rfl (.st ty34 rfl rfl rfl (.nil (.freeze (t := 4) rfl rfl SubB.nil rfl (.sr [oo, ([], [5]), ([5], [5])] mx (.cA (.re hv8 (.buildF (y := (⟨(⟨(0 : Int), Str.nil, (0 : Int)⟩ : Stamp), (0 : Int), Str.nil, Str.nil, Str.nil, (0 : Int)⟩ : DOp)) .none bu34 zc34 rfl .nil .nil)) (.al zo34 rfl (.st ty34 rfl rfl rfl (.nil (.nameBox (t := 5) (g := 5001) rfl rfl (fun m5001 => (.seq (.sn mx (.mv rfl (.c (.gt .none (.s rfl) .i) (.mv rfl (.mg rfl rfl rfl (.mg rfl rfl rfl (.c (.subW (.at rfl rfl) (.tmp rfl id) .i) (.c (.indexAddr (.at rfl rfl) sl22 ty34 (.tmp rfl id) (.tmp rfl id) (fun hg => hn9 hg.2)) (.c (.fieldAddr (.at rfl rfl) fd34_0 hfd34_0 (.tmp rfl id)) (.c (.fieldAddr (.at rfl rfl) fd32_1 hfd32_1 (.tmp rfl id)) (.lg ty9 rfl rfl rfl (.fg fd34_0 hfd34_0 rfl rfl rfl (.c (.fieldAddr (.at rfl rfl) fd32_1 hfd32_1 (.tmp rfl id)) (.lg ty9 rfl rfl rfl (.c (.eqS (.at rfl rfl) (eqAt_str Tryd.underlying9) (.tmp rfl id) (.tmp rfl id)) (.pa rfl rfl (.nil ?_))))))))))))))))))))))))))))))))))
     obtain ⟨j_10, h, hK10⟩ := bind_some h
     refine .thenJ (ι := DOp) (fun j_10 => []) (fun j_10 => [(5001, some (boxAt m5001 34 j_10))]) (fun s => j_10 = s) (.k4 0 3 4 5 rfl rfl rfl rfl (.k2 10 11 rfl rfl (.k 12 rfl .nil))) SubB.nil ?_ (fun j_10' hj10 => ?_)
     ·
      refine .cb rfl h (fun _ h => ?_) fun _ h => ?_
      ·
       obtain ⟨hn12, h⟩ := need_some h
       obtain ⟨v3, hv13, h⟩ := bnd_some h
       exact .rg [oo, oo, oo, oo, oo, ([5001], [5001])] mx (.mvA rfl (.mvA rfl (.cA (.subW .none (.s rfl) .i) (.ixA sl22 ty34 rfl rfl hn12 (.rlA hv13 ty34 rfl (.s0 5001 ty34 rfl rfl rfl (.nil (Ends.j _ (some_eq h)))))))))
      ·
       exact .skip (Ends.j _ (some_eq h))
     ·
      subst hj10; have h := hK10; clear hK10
      obtain ⟨r1, hv14, h⟩ := bind_some h
      refine .fb 5001 [5] rfl (.cons (t := 5) rfl trivial .nil) (.seq (.block (.sn mx (.fa fd34_0 hfd34_0 rfl (.fa fd32_1 hfd32_1 rfl (.ld ty9 rfl (.c (.call .none (edit_isName_ok hv14) (.cons (.s rfl) .nil)) (.c (.not .none (.s rfl)) (.asn rfl (.nil (.cb rfl h (fun _ h => ?_) fun _ h => ?_)))))))))))
      ·
       refine .sn mx (.asi (.nil (.ret (.blkRet (.thenRet (.blkRet (.thenRet (.thenRet (.blkRet (.thenRet ?_))))))))))
       replace h := resd_ab hK5 (some_eq h)
       replace h := hD3 _ (some_eq h)
       replace h := resb_ab hK2 (some_eq h)
       obtain rfl := some_eq h
       exact Ends.rt Tryd.results31 rfl
      ·
       obtain ⟨hn16, h⟩ := need_some h
       obtain ⟨r2, hv17, h⟩ := bind_some h
       refine .sn mx (.mv rfl (.c (.gt .none (.s rfl) .i) (.mv rfl (.mg rfl rfl rfl (.mg rfl rfl rfl (.c (.subW (.at rfl rfl) (.tmp rfl id) .i) (.c (.indexAddr (.at rfl rfl) sl22 ty34 (.tmp rfl id) (.tmp rfl id) (fun hg => hn16 hg.2)) (.lg ty34 rfl rfl rfl (.c (.load (.at rfl rfl) ty34 (.s rfl)) (.c (.callIf (.at rfl rfl) fnok43 (fun hg => edit_order_ok ((fun hg => gd_some hv17 (hg.2)) hg)) (.cons (.tmp rfl id) (.cons (.tmp rfl id) .nil)) (fun h => h)) (.c (.ge (.at rfl rfl) (.tmp rfl id) .i) (.pa rfl rfl (.asn rfl (.nil (.cb rfl h (fun _ h => ?_) fun _ h => ?_)))))))))))))))
       ·
        refine .sn mx (.asi (.nil (.ret (.blkRet (.thenRet (.blkRet (.thenRet (.thenRet (.blkRet (.thenRet ?_))))))))))
        replace h := resd_ab hK5 (some_eq h)
        replace h := hD3 _ (some_eq h)
        replace h := resb_ab hK2 (some_eq h)
        obtain rfl := some_eq h
        exact Ends.rt Tryd.results31 rfl
       ·
        obtain ⟨v4, hv19, h⟩ := bnd_some h
        refine .seq (.sn mx (.fa fd34_0 hfd34_0 rfl (.fa fd32_2 hfd32_2 rfl (.ld ty3 rfl (.fa fd34_0 hfd34_0 rfl (.fa fd32_2 hfd32_2 rfl (.ld ty3 rfl (.adi rfl (.c (.neI .none (.s rfl) (.s rfl)) (.ra hv19 rfl (.nil ?_)))))))))))
        obtain ⟨j_20, h, hK20⟩ := bind_some h
        refine .thenJ (ι := Bool) (fun j_20 => [(57, ⟨True, rep j_20⟩)]) (fun j_20 => []) (fun s => j_20 = s) (.k4 0 4 5 10 rfl rfl rfl rfl (.k2 11 12 rfl rfl .nil)) SubB.nil ?_ (fun j_20' hj20 => ?_)
        ·
         refine .cb rfl h (fun _ h => ?_) fun _ h => ?_
         ·
          exact .skip (Ends.j _ (some_eq h))
         ·
          obtain ⟨v5, hv22, h⟩ := bnd_some h
          exact .rn mx (.fa fd34_0 hfd34_0 rfl (.fa fd32_0 hfd32_0 rfl (.ld ty3 rfl (.c (.lt .none (.s rfl) .i) (.mv rfl (.fg fd34_0 hfd34_0 rfl rfl rfl (.c (.fieldAddr (.at rfl rfl) fd32_0 hfd32_0 (.tmp rfl id)) (.lg ty3 rfl rfl rfl (.c (.gt (.at rfl rfl) (.tmp rfl id) .i) (.po rfl rfl (.ra hv22 rfl (.nil (Ends.j _ (some_eq h))))))))))))))
        ·
         subst hj20; have h := hK20; clear hK20
         refine .cb rfl h (fun _ h => ?_) fun _ h => ?_
         ·
          refine .sn mx (.asi (.nil (.ret (.blkRet (.thenRet (.blkRet (.thenRet (.thenRet (.blkRet (.thenRet ?_))))))))))
          replace h := resd_ab hK5 (some_eq h)
          replace h := hD3 _ (some_eq h)
          replace h := resb_ab hK2 (some_eq h)
          obtain rfl := some_eq h
          exact Ends.rt Tryd.results31 rfl
         ·
          refine .sn mx (.fa fd34_0 hfd34_0 rfl (.fa fd32_0 hfd32_0 rfl (.ld ty3 rfl (.fa fd34_0 hfd34_0 rfl (.fa fd32_0 hfd32_0 rfl (.ld ty3 rfl (.c (.le .none (.s rfl) (.s rfl)) (.asn rfl (.nil (.cb rfl h (fun _ h => ?_) fun _ h => ?_))))))))))
          ·
           refine .sn mx (.asi (.nil (.ret (.blkRet (.thenRet (.blkRet (.thenRet (.thenRet (.blkRet (.thenRet ?_))))))))))
           replace h := resd_ab hK5 (some_eq h)
           replace h := hD3 _ (some_eq h)
           replace h := resb_ab hK2 (some_eq h)
           obtain rfl := some_eq h
           exact Ends.rt Tryd.results31 rfl
          ·
           obtain ⟨e1, hv25, h⟩ := bind_some h
           refine .skip (.blkNormal (.then (.sn mx (.ld ty34 rfl (.c (.call .none (edit_checkBody_ok hv25) (.cons (.s rfl) .nil)) (.asn rfl (.nil (.sn mx (.mv rfl (.nei rfl (.nil (.cb rfl h (fun _ h => ?_) fun _ h => ?_))))))))))))
           ·
            refine .sn mx (.mv rfl (.asn rfl (.nil (.ret (.blkRet (.thenRet (.thenRet (.blkRet (.thenRet ?_)))))))))
            replace h := resd_ab hK5 (some_eq h)
            replace h := hD3 _ (some_eq h)
            replace h := resb_ab hK2 (some_eq h)
            obtain rfl := some_eq h
            exact Ends.rt Tryd.results31 rfl
           ·
            exact .skip (.blkNormal (Ends.j _ (some_eq h)))
    ·
     have h := resd_nx hK5 hj5
     exact .rn mx (.adi rfl (.mv rfl (.nil (Ends.ag (some_eq h)))))
   ·
    refine .exit (.thenExit (.thenExit (.blkExit ?_)))
    replace h := hD3 _ (some_eq h)
    exact Ends.j _ (some_eq h)
  ·
   have h := resb_nx hK2 hj2
   refine .sn mx (.asi (.nil (.ret ?_)))
   obtain rfl := some_eq h
   exact Ends.rt Tryd.results31 rfl

theorem law_edits_ok  {r : Bool}  (h : law_edits  = some r) : FSpec Tryd.prog 6 [] (rep r) := by
 unfold law_edits at h
 obtain ⟨r1, hv1, h⟩ := bind_some h
 obtain ⟨r2, hv2, h⟩ := bind_some h
 refine FSpec.i Tryd.func6 rfl Tryd.ntmps6 rfl (fun F => (.sn mx (.asb (.nil (.sn mx (.c (.call .none (edit_Check_ok hv1) (.cons (.const (x := ([] : (List DOp))) (fun M w => ⟨_, ⟨none, 0, rfl, Nat.le_refl _, by decide, rfl⟩, rfl⟩)) .nil)) (.eqi rfl (.mv rfl (.c (.buildF (y := (⟨(⟨(0 : Int), Str.nil, (0 : Int)⟩ : Stamp), (0 : Int), Str.nil, Str.nil, Str.nil, (0 : Int)⟩ : DOp)) (.at rfl rfl) bu34 zc34 rfl .nil .nil) (.c (.buildSlice (xs := [_]) (.at rfl rfl) sl22 ty34 hz34 (.cons (.tmp rfl id) .nil) rfl (by decide)) (.c (.callIf (.at rfl rfl) fnok31 (fun hg => edit_Check_ok ((fun hg => gd_some hv2 (hg.2)) hg)) (.cons (.tmp rfl id) .nil) (fun h => h)) (.c (.eqI (.at rfl rfl) (.tmp rfl id) .i) (.pa rfl rfl (.asn rfl (.nil (.ret ?_))))))))))))))))
 obtain rfl := some_eq h
 exact Ends.rt Tryd.results6 rfl

theorem slices_BinarySearchFunc_Op_ok {x1 : (List DOp)} {target1 : DOp} {cmp1 : (DOp → DOp → Option Int)} {r : (Int × Bool)}  (h : slices_BinarySearchFunc_Op x1 target1 cmp1 = some r) : FSpec Tryd.prog 60 [rep x1, rep target1, fn2 Tryd.prog (rep (α := Int)) cmp1] (tup [rep r.1, rep r.2]) := by
 unfold slices_BinarySearchFunc_Op at h
 obtain ⟨n1, hv1, h⟩ := bnd_some h
 refine FSpec.i Tryd.func60 rfl Tryd.ntmps60 rfl (fun F => (.sn mx (.c (.box .none (.s rfl)) (.asi (.asb (.nil (.sn mx (.mv rfl (.ln sl22 rfl (.ra hv1 rfl (.nil (.sn mx (.mv rfl (.asi (.asn rfl (.nil (.seq ?_)))))))))))))))))
 obtain ⟨j_2, h, hK2⟩ := bind_some h
 refine .thenJ (ι := Int) (fun j_2 => [(9, ⟨True, rep j_2⟩)]) (fun j_2 => []) (fun s => j_2 = s) (.k4 0 2 4 8 rfl rfl rfl rfl .nil) SubB.nil ?_ (fun j_2' hj2 => ?_)
 ·
  refine .block (.loopL h (fun s3_ => [(9, ⟨True, rep s3_.1⟩), (10, ⟨True, rep s3_.2⟩)]) (fun s3_ => []) (.k2 9 10 rfl rfl .nil) SubB.nil (.k4 0 2 4 8 rfl rfl rfl rfl .nil) SubB.nil (fun s3_ o_3 h hD3 => ?_))
  unfold slices_BinarySearchFunc_Op_L1 at h
  refine .seq (.sn mx (.mv rfl (.mv rfl (.lt rfl rfl (.nil (.cb rfl h (fun _ h => ?_) fun _ h => ?_))))))
  ·
   obtain ⟨h1, hv5, h⟩ := bnd_some h
   obtain ⟨hn6, h⟩ := need_some h
   obtain ⟨r1, hv7, h⟩ := bind_some h
   refine .skip (.then (.block (.sn mx (.mv rfl (.mv rfl (.add rfl rfl (.c (.toK .none (by kernel_rfl) Tryd.underlying88 (.s rfl)) (.c (.kshr .none (.s rfl) .ki (fun _ => by decide)) (.c (.toInt .none (by kernel_rfl) Tryd.underlying3 (.s rfl)) (.ra hv5 rfl (.nil (.sn mx (.mv rfl (.mv rfl (.mv rfl (.ix sl22 ty34 rfl rfl hn6 (.ld ty34 rfl (.ld ty34 rfl (.c (.callV (gx x1 h1, target1, r1) .none (.s rfl) (fun _ => hv7) (.cons (.s rfl) (.cons (.s rfl) .nil))) (.c (.lt .none (.s rfl) .i) (.nil (.cb rfl h (fun _ h => ?_) fun _ h => ?_))))))))))))))))))))))
   ·
    obtain ⟨i1, hv9, h⟩ := bnd_some h
    exact .rn mx (.mv rfl (.adi rfl (.ra hv9 rfl (.nil (.blkNormal (Ends.ag (some_eq h)))))))
   ·
    exact .rn mx (.mv rfl (.asn rfl (.nil (.blkNormal (Ends.ag (some_eq h))))))
  ·
   refine .exit (.thenExit (.thenExit (.blkExit ?_)))
   replace h := hD3 _ (some_eq h)
   exact Ends.j _ (some_eq h)
 ·
  subst hj2; have h := hK2; clear hK2
  obtain ⟨hn10, h⟩ := need_some h
  obtain ⟨r2, hv11, h⟩ := bind_some h
  refine .sn mx (.mv rfl (.mv rfl (.mv rfl (.lt rfl rfl (.mv rfl (.mg rfl rfl rfl (.mg rfl rfl rfl (.mg rfl rfl rfl (.c (.indexAddr (.at rfl rfl) sl22 ty34 (.tmp rfl id) (.tmp rfl id) (fun hg => hn10 hg.2)) (.lg ty34 rfl rfl rfl (.c (.load (.at rfl rfl) ty34 (.s rfl)) (.c (.callV (gx x1 j_2, target1, r2) (.at rfl rfl) (.tmp rfl id) (fun hg => gd_some hv11 (hg.2)) (.cons (.tmp rfl id) (.cons (.tmp rfl id) .nil))) (.c (.eqI (.at rfl rfl) (.tmp rfl id) .i) (.pa rfl rfl (.asn rfl (.asn rfl (.nil (.ret ?_))))))))))))))))))
  obtain rfl := some_eq h
  exact Ends.ret2 (.inl rfl) Tryd.results60 (ResOK.tmp rfl trivial Imp.refl) (ResOK.tmp rfl trivial Imp.refl)

theorem slices_Clone_Op_ok {s1 : (List DOp)} {r : (List DOp)}  (h : slices_Clone_Op s1 = some r) : FSpecO Tryd.prog 45 [rep s1] [] (anyV) [some (rowV 34 r)] := by
 unfold slices_Clone_Op at h
 refine FSpecO.i Tryd.func45 rfl Tryd.ntmps45 rfl (fun F => (.sn mx (.c (.assign .none (.const (x := ([] : (List DOp))) (fun M w => ⟨_, ⟨none, 0, rfl, Nat.le_refl _, by decide, rfl⟩, rfl⟩))) (.nil (.seq (.sn mx (.mv rfl (.c (.eqNil .none sl22 (.s rfl)) (.nil (.condNil (t := 4) rfl trivial (fun hb1 => ?_) ?_))))))))))
 ·
  replace h := nilc_t h hb1
  refine .sr [([], [2])] mx (.cW (.nilRow (T := 34) (α := DOp) rfl) (.nil (.nameRow (t := 2) (g := 5001) rfl rfl rfl (fun s5001 => (.ret (.thenRet (.anon (t := 2) (g := 5001) rfl rfl trivial rfl ?_)))))))
  obtain rfl := some_eq h
  exact Ends.ret1O (.inl rfl) [2] Tryd.results45 (by decide) (.res rfl rfl) (ResOK.tmp rfl trivial (fun _ _ _ _ => trivial))
 ·
  replace h := nilc_f h
  obtain ⟨hn2, h⟩ := need_some h
  obtain ⟨v1, hv3, h⟩ := bnd_some h
  refine .skip (.then (.sr [([], [5]), oo, ([5], [7, 5]), ([7], [2, 7])] mx (.cW (.buildSliceO (xs := []) rfl sl22 ty34 hz34 .nil rfl (by decide)) (.mvA rfl (.cW (.append (k := 5) rk22 rfl (.tmp rfl) (.s rfl) hn2) (.cW (.passRow rfl (.tmp rfl)) (.nil (.reB (t := 2) rfl (congrArg (rowV 34) hv3) (.nameRow (t := 2) (g := 5002) rfl rfl rfl (fun s5002 => (.ret (.anon (t := 2) (g := 5002) rfl rfl trivial rfl ?_))))))))))))
  obtain rfl := some_eq h
  exact Ends.ret1O (.inl rfl) [2] Tryd.results45 (by decide) (.res rfl rfl) (ResOK.tmp rfl trivial (fun _ _ _ _ => trivial))

theorem edit_further_ok {l1 : (List DOp)} {x1 : DOp} {r : ((List DOp) × Int)}  (h : edit_further l1 x1 = some r) : FSpecO Tryd.prog 33 [rep l1, rep x1] [] (tup [anyV, rep r.2]) [some (tupC (rowV 34 r.1))] := by
 unfold edit_further at h
 refine FSpecO.i Tryd.func33 rfl Tryd.ntmps33 rfl (fun F => (.sr [([], [3]), oo, oo] mx (.cW (.boxO rfl (.s rfl)) (.cA (.assign .none (.const (x := ([] : (List DOp))) (fun M w => ⟨_, ⟨none, 0, rfl, Nat.le_refl _, by decide, rfl⟩, rfl⟩))) (.cA (.assign .none .i) (.nil (.nameBox (t := 3) (g := 5001) rfl rfl (fun m5001 => (.seq (.sn mx (.mv rfl (.ln sl22 rfl (.c (.ge .none (.s rfl) .i) (.nil (.cb rfl h (fun _ h => ?_) fun _ h => ?_)))))))))))))))
 ·
  refine .sr [([], [4]), oo] mx (.cW (.nilRow (T := 34) (α := DOp) rfl) (.cA (.assign .none .i) (.nil (.nameRow (t := 4) (g := 5002) rfl rfl rfl (fun s5002 => (.ret (.thenRet (.anon (t := 4) (g := 5002) rfl rfl trivial rfl ?_))))))))
  obtain rfl := some_eq h
  exact Ends.ret2T (.inl rfl) Tryd.results33 rfl (ResOK.tmp rfl trivial (fun _ _ _ _ => trivial)) (ResOK.tmp rfl trivial Imp.refl)
 ·
  obtain ⟨c1, hv2, h⟩ := bnd_some h
  refine .skip (.then (.sr [oo, oo, ([5001], [5001])] mx (.cA (.fieldPtr .none fd34_0 (.s rfl)) (.cA (.fieldPtr .none fd32_2 (.s rfl)) (.cN (.storeAt (g := 5001) ty3 rfl (.s rfl) (SetField.comp (o2 := 2) hfd34_0 sf34_0 sf32_2) .i) (.nil (.reB (t := 5001) rfl (congrArg (fun y => boxAt m5001 34 y) hv2) (.seq (.sn mx (.mv rfl (.ln sl22 rfl (.mvi (.nil ?_)))))))))))))
  obtain ⟨j_3, h, hK3⟩ := bind_some h
  refine .thenJ (ι := DOp) (fun j_3 => []) (fun j_3 => [(5001, some (boxAt m5001 34 j_3))]) (fun s => j_3 = s) (.k2 0 3 rfl rfl .nil) SubB.nil ?_ (fun j_3' hj3 => ?_)
  ·
   refine .block (.rforL h (fun p4_ => [(17, ⟨True, rep p4_.1⟩)]) (fun p4_ => [(5001, some (boxAt m5001 34 p4_.2))]) (.k 17 rfl .nil) (.k 5001 rfl .nil) (.k4 0 3 15 16 rfl rfl rfl rfl .nil) SubB.nil (fun p4_ o_4 h hD4 => (.sn mx (.lt rfl rfl (.nil (.seq (.cb rfl h (fun _ h => ?_) fun _ h => ?_)))))))
   ·
    refine .skip (.then (.seq ?_))
    obtain ⟨j_6, h, hK6⟩ := bind_some h
    unfold edit_further_L1 at h
    refine .thenJ (ι := DOp) (fun j_6 => []) (fun j_6 => [(5001, some (boxAt m5001 34 j_6))]) (fun s => j_6 = s) (.k4 0 3 15 16 rfl rfl rfl rfl (.k 17 rfl .nil)) SubB.nil ?_ (fun j_6' hj6 => ?_)
    ·
     obtain ⟨hn7, h⟩ := need_some h
     obtain ⟨v1, hv8, h⟩ := bnd_some h
     obtain ⟨v2, hv9, h⟩ := bnd_some h
     obtain ⟨c2, hv10, h⟩ := bnd_some h
     refine .block (.sr [oo, oo, ([], [7]), ([7], [7])] mx (.ixA sl22 ty34 rfl rfl hn7 (.rlA hv8 ty34 rfl (.al zo34 rfl (.st ty34 rfl rfl rfl (.nil (.freeze (t := 7) rfl rfl (.k 5001 rfl .nil) rfl (.sr [oo, oo, ([5001], []), oo, oo, oo, oo, oo, oo, ([5001], [5001])] mx (.cA (.fieldPtr .none fd34_0 (.s rfl)) (.cA (.fieldPtr .none fd32_0 (.s rfl)) (.cA (.loadAt (k := 5001) .none ty3 rfl (.s rfl) (HasField.comp (o2 := 0) hfd34_0 hfd32_0)) (.faA fd34_0 hfd34_0 rfl (.faA fd32_0 hfd32_0 rfl (.ldA ty3 rfl (.cA (.re hv9 (.max2 .none (.s rfl) (.s rfl))) (.cA (.fieldPtr .none fd34_0 (.s rfl)) (.cA (.fieldPtr .none fd32_0 (.s rfl)) (.cN (.storeAt (g := 5001) ty3 rfl (.s rfl) (SetField.comp (o2 := 0) hfd34_0 sf34_0 sf32_0) (.s rfl)) (.nil (.reB (t := 5001) rfl (congrArg (fun y => boxAt m5001 34 y) hv10) (.sr [oo, oo, oo, oo, oo, ([5001], []), oo] mx (.faA fd34_0 hfd34_0 rfl (.faA fd32_1 hfd32_1 rfl (.ldA ty9 rfl (.cA (.fieldPtr .none fd34_0 (.s rfl)) (.cA (.fieldPtr .none fd32_1 (.s rfl)) (.cA (.loadAt (k := 5001) .none ty9 rfl (.s rfl) (HasField.comp (o2 := 1) hfd34_0 hfd32_1)) (.cA (.eqS .none (eqAt_str Tryd.underlying9) (.s rfl) (.s rfl)) (.nil (.cb rfl h (fun _ h => ?_) fun _ h => ?_))))))))))))))))))))))))))))))
     ·
      obtain ⟨v3, hv12, h⟩ := bnd_some h
      exact .rg [oo, oo, oo, oo, oo, oo, ([5001], [5001])] mx (.faA fd34_0 hfd34_0 rfl (.faA fd32_2 hfd32_2 rfl (.ldA ty3 rfl (.cA (.re hv12 (.addW .none (.s rfl) .i)) (.cA (.fieldPtr .none fd34_0 (.s rfl)) (.cA (.fieldPtr .none fd32_2 (.s rfl)) (.cN (.storeAt (g := 5001) ty3 rfl (.s rfl) (SetField.comp (o2 := 2) hfd34_0 sf34_0 sf32_2) (.s rfl)) (.nil (.blkNormal (Ends.j _ (some_eq h)))))))))))
     ·
      exact .skip (.blkNormal (Ends.j _ (some_eq h)))
    ·
     subst hj6; have h := hK6; clear hK6
     exact .rn mx (.adi rfl (.mv rfl (.nil (Ends.ag (some_eq h)))))
   ·
    refine .exit (.thenExit (.thenExit (.blkExit ?_)))
    replace h := hD4 _ (some_eq h)
    exact Ends.j _ (some_eq h)
  ·
   subst hj3; have h := hK3; clear hK3
   obtain ⟨v4, hv13, h⟩ := bnd_some h
   refine .seq (.sr [oo, oo, ([5001], []), oo, oo, oo, ([5001], [5001])] mx (.cA (.fieldPtr .none fd34_0 (.s rfl)) (.cA (.fieldPtr .none fd32_0 (.s rfl)) (.cA (.loadAt (k := 5001) .none ty3 rfl (.s rfl) (HasField.comp (o2 := 0) hfd34_0 hfd32_0)) (.cA (.re hv13 (.addW .none (.s rfl) .i)) (.cA (.fieldPtr .none fd34_0 (.s rfl)) (.cA (.fieldPtr .none fd32_0 (.s rfl)) (.cN (.storeAt (g := 5001) ty3 rfl (.s rfl) (SetField.comp (o2 := 0) hfd34_0 sf34_0 sf32_0) (.s rfl)) (.nil (.fb 5001 [3] rfl (.cons (t := 3) rfl trivial .nil) (.sn mx (.fa fd34_0 hfd34_0 rfl (.fa fd32_0 hfd32_0 rfl (.ld ty3 rfl (.c (.gt .none (.s rfl) .i) (.nil (.cb rfl h (fun _ h => ?_) fun _ h => ?_)))))))))))))))))
   ·
    refine .sr [([], [4]), oo] mx (.cW (.nilRow (T := 34) (α := DOp) rfl) (.cA (.assign .none .i) (.nil (.nameRow (t := 4) (g := 5003) rfl rfl rfl (fun s5003 => (.ret (.thenRet (.anon (t := 4) (g := 5003) rfl rfl trivial rfl ?_))))))))
    obtain rfl := some_eq h
    exact Ends.ret2T (.inl rfl) Tryd.results33 rfl (ResOK.tmp rfl trivial (fun _ _ _ _ => trivial)) (ResOK.tmp rfl trivial Imp.refl)
   ·
    obtain ⟨r1, hv15, h⟩ := bind_some h
    refine .skip (.then (.sn mx (.mv rfl (.ld ty34 rfl (.c (.call .none (slices_BinarySearchFunc_Op_ok hv15) (.cons (.s rfl) (.cons (.s rfl) (.cons (Opd.func (ι := DOp × DOp × Int) (pre := fun i => edit_order i.1 i.2.1 = some i.2.2) (Ss := fun i => [rep i.1, rep i.2.1]) (S := fun i => rep i.2.2) fnok43 (fun i h => edit_order_ok h)) .nil)))) ?_)))))
    obtain ⟨r2, hv16, h⟩ := bind_some h
    obtain ⟨r3, hv17, h⟩ := bind_some h
    refine .mv rfl (.ex rfl rfl (.ex rfl rfl (.asn rfl (.asn rfl (.nil (.sr [oo, ([], [61]), oo, oo, ([], [64]), ([61, 64], [61, 64, 65]), ([65], [4, 65]), oo] mx (.mvA rfl (.cW (.cO [] (slices_Clone_Op_ok hv16) (.cons (.s rfl) .nil) .nil rfl) (.mvA rfl (.ldA ty34 rfl (.cW (.buildSliceO (xs := [_]) rfl sl22 ty34 hz34 (.cons (.s rfl) .nil) rfl (by decide)) (.cW (.tell (t := 64) rfl row_one rfl (by decide) (fun _ => StepOK.tell (t := 61) rfl row_one rfl (by decide) (fun _ => StepOK.callO [61, 64] (slices_Insert_Op_ok hv17) (.cons (.s rfl) (.cons (.s rfl) (.cons (.s rfl) .nil))) (.cons (k := 61) rfl (.cons (k := 64) rfl .nil)) rfl (by decide) (by decide) (by intro d h; cases h; decide)))) (.cW (.passRow rfl (.tmp rfl)) (.cA (.assign .none .i) (.nil (.nameRow (t := 4) (g := 5004) rfl rfl rfl (fun s5004 => (.ret (.anon (t := 4) (g := 5004) rfl rfl trivial rfl ?_)))))))))))))))))))
    obtain rfl := some_eq h
    exact Ends.ret2T (.inl rfl) Tryd.results33 rfl (ResOK.tmp rfl trivial (fun _ _ _ _ => trivial)) (ResOK.tmp rfl trivial Imp.refl)

theorem edit_Add_ok {l1 : (List DOp)} {site1 : Str} {kind1 : Int} {id1 : Str} {field1 : Str} {value1 : Str} {r : ((List DOp) × Int)}  (h : edit_Add l1 site1 kind1 id1 field1 value1 = some r) : FSpec Tryd.prog 7 [rep l1, rep site1, rep kind1, rep id1, rep field1, rep value1] (tup [rep r.1, rep r.2]) := by
 unfold edit_Add at h
 obtain ⟨e1, hv1, h⟩ := bind_some h
 refine FSpec.i Tryd.func7 rfl Tryd.ntmps7 rfl (fun F => (.sn mx (.c (.assign .none (.const (x := ([] : (List DOp))) (fun M w => ⟨_, ⟨none, 0, rfl, Nat.le_refl _, by decide, rfl⟩, rfl⟩))) (.asi (.nil (.seq (.sn mx (.mv rfl (.c (.call .none (edit_Check_ok hv1) (.cons (.s rfl) .nil)) (.asn rfl (.nil (.sn mx (.mv rfl (.nei rfl (.nil (.cb rfl h (fun _ h => ?_) fun _ h => ?_))))))))))))))))
 ·
  refine .sn mx (.mv rfl (.c (.assign .none (.const (x := ([] : (List DOp))) (fun M w => ⟨_, ⟨none, 0, rfl, Nat.le_refl _, by decide, rfl⟩, rfl⟩))) (.asn rfl (.nil (.ret (.thenRet ?_))))))
  obtain rfl := some_eq h
  exact Ends.ret2 (.inl rfl) Tryd.results7 (ResOK.tmp rfl trivial Imp.refl) (ResOK.tmp rfl trivial Imp.refl)
 ·
  obtain ⟨r1, hv3, h⟩ := bind_some h
  refine .skip (.then (.seq (.block (.sn mx (.mv rfl (.c (.call .none (edit_isName_ok hv3) (.cons (.s rfl) .nil)) (.c (.not .none (.s rfl)) (.asn rfl (.nil (.cb rfl h (fun _ h => ?_) fun _ h => ?_))))))))))
  ·
   refine .sn mx (.c (.assign .none (.const (x := ([] : (List DOp))) (fun M w => ⟨_, ⟨none, 0, rfl, Nat.le_refl _, by decide, rfl⟩, rfl⟩))) (.asi (.nil (.ret (.blkRet (.thenRet ?_))))))
   obtain rfl := some_eq h
   exact Ends.ret2 (.inl rfl) Tryd.results7 (ResOK.tmp rfl trivial Imp.refl) (ResOK.tmp rfl trivial Imp.refl)
  ·
   refine .sn mx (.mv rfl (.nei rfl (.mv rfl (.mg rfl rfl rfl (.c (.neI (.at rfl rfl) (.tmp rfl id) .i) (.pa rfl rfl (.asn rfl (.nil (.cb rfl h (fun _ h => ?_) fun _ h => ?_)))))))))
   ·
    refine .sn mx (.c (.assign .none (.const (x := ([] : (List DOp))) (fun M w => ⟨_, ⟨none, 0, rfl, Nat.le_refl _, by decide, rfl⟩, rfl⟩))) (.asi (.nil (.ret (.blkRet (.thenRet ?_))))))
    obtain rfl := some_eq h
    exact Ends.ret2 (.inl rfl) Tryd.results7 (ResOK.tmp rfl trivial Imp.refl) (ResOK.tmp rfl trivial Imp.refl)
   ·
    obtain ⟨r2, hv6, h⟩ := bind_some h
    refine .skip (.blkNormal (.then (.sn mx (.mv rfl (.mv rfl (.c (.buildF (y := (⟨(0 : Int), site1, (0 : Int)⟩ : Stamp)) .none bu32 zc32 rfl (.cons (.s rfl) .nil) (.cons rfl sf32_1 .nil)) (.mv rfl (.mv rfl (.mv rfl (.mv rfl (.c (.buildF (y := (⟨(⟨(0 : Int), site1, (0 : Int)⟩ : Stamp), kind1, id1, field1, value1, (0 : Int)⟩ : DOp)) .none bu34 zc34 rfl (.cons (.s rfl) (.cons (.s rfl) (.cons (.s rfl) (.cons (.s rfl) (.cons (.s rfl) .nil))))) (.cons rfl sf34_0 (.cons rfl sf34_1 (.cons rfl sf34_2 (.cons rfl sf34_3 (.cons rfl sf34_4 .nil)))))) (.c (.call .none (edit_further_ok hv6).frzT (.cons (.s rfl) (.cons (.s rfl) .nil))) (.mv rfl (.ex rfl rfl (.ex rfl rfl (.asn rfl (.asn rfl (.nil (.seq (.sn mx (.mv rfl (.nei rfl (.nil (.cb rfl h (fun _ h => ?_) fun _ h => ?_))))))))))))))))))))))))
    ·
     refine .sn mx (.mv rfl (.c (.assign .none (.const (x := ([] : (List DOp))) (fun M w => ⟨_, ⟨none, 0, rfl, Nat.le_refl _, by decide, rfl⟩, rfl⟩))) (.asn rfl (.nil (.ret (.thenRet ?_))))))
     obtain rfl := some_eq h
     exact Ends.ret2 (.inl rfl) Tryd.results7 (ResOK.tmp rfl trivial Imp.refl) (ResOK.tmp rfl trivial Imp.refl)
    ·
     obtain ⟨e2, hv8, h⟩ := bind_some h
     refine .skip (.then (.seq (.sn mx (.mv rfl (.c (.call .none (edit_Check_ok hv8) (.cons (.s rfl) .nil)) (.asn rfl (.nil (.sn mx (.mv rfl (.nei rfl (.nil (.cb rfl h (fun _ h => ?_) fun _ h => ?_))))))))))))
     ·
      refine .sn mx (.mv rfl (.c (.assign .none (.const (x := ([] : (List DOp))) (fun M w => ⟨_, ⟨none, 0, rfl, Nat.le_refl _, by decide, rfl⟩, rfl⟩))) (.asn rfl (.nil (.ret (.thenRet ?_))))))
      obtain rfl := some_eq h
      exact Ends.ret2 (.inl rfl) Tryd.results7 (ResOK.tmp rfl trivial Imp.refl) (ResOK.tmp rfl trivial Imp.refl)
     ·
      refine .skip (.then (.sn mx (.mv rfl (.asn rfl (.asi (.nil (.ret ?_)))))))
      obtain rfl := some_eq h
      exact Ends.ret2 (.inl rfl) Tryd.results7 (ResOK.tmp rfl trivial Imp.refl) (ResOK.tmp rfl trivial Imp.refl)

theorem edit_Undo_1_ok {l1 : (List DOp)} {counts1 : (List Bool)} {c0_1 : Str} {r : Int}  (h : edit_Undo_1 l1 counts1 c0_1 = some r) : FSpec Tryd.prog 35 [rep l1, rep counts1, ref c0_1] (rep r) := by
 unfold edit_Undo_1 at h
 refine FSpec.i Tryd.func35 rfl Tryd.ntmps35 rfl (fun F => (.sn mx (.asi (.nil (.sn mx (.asi (.nil (.seq (.sn mx (.mv rfl (.ln sl22 rfl (.mvi (.nil ?_)))))))))))))
 obtain ⟨j_1, h, hK1⟩ := bind_some h
 refine .thenJ (ι := Int) (fun j_1 => [(6, ⟨True, rep j_1⟩)]) (fun j_1 => []) (fun s => j_1 = s) Sub.nil SubB.nil ?_ (fun j_1' hj1 => ?_)
 ·
  refine .block (.rforL h (fun p2_ => [(11, ⟨True, rep p2_.1⟩), (6, ⟨True, rep p2_.2⟩)]) (fun p2_ => []) (.k2 11 6 rfl rfl .nil) SubB.nil (.k4 1 2 9 10 rfl rfl rfl rfl .nil) SubB.nil (fun p2_ o_2 h hD2 => (.sn mx (.lt rfl rfl (.nil (.seq (.cb rfl h (fun _ h => ?_) fun _ h => ?_)))))))
  ·
   refine .skip (.then (.seq ?_))
   obtain ⟨j_4, h, hK4⟩ := bind_some h
   unfold edit_Undo_1_L1 at h
   refine .thenJ (ι := Int) (fun j_4 => [(6, ⟨True, rep j_4⟩)]) (fun j_4 => []) (fun s => j_4 = s) (.k4 1 2 9 10 rfl rfl rfl rfl (.k 11 rfl .nil)) SubB.nil ?_ (fun j_4' hj4 => ?_)
   ·
    obtain ⟨hn5, h⟩ := need_some h
    obtain ⟨v1, hv6, h⟩ := bnd_some h
    obtain ⟨hn7, h⟩ := need_some h
    refine .block (.sr [oo, oo, oo, ([], [8]), oo, ([8], [8])] mx (.mvA rfl (.ixA sl22 ty34 rfl rfl hn5 (.rlA hv6 ty34 rfl (.al zo34 rfl (.asnA rfl (.st ty34 rfl rfl rfl (.nil (.freeze (t := 8) rfl rfl SubB.nil rfl (.sn mx (.fa fd34_0 hfd34_0 rfl (.fa fd32_1 hfd32_1 rfl (.ld ty9 rfl (.ld ty9 rfl (.c (.eqS .none (eqAt_str Tryd.underlying9) (.s rfl) (.s rfl)) (.mv rfl (.mg rfl rfl rfl (.mg rfl rfl rfl (.c (.indexAddr (.at rfl rfl) sl57 ty4 (.tmp rfl id) (.tmp rfl id) (fun hg => hn7 hg.2)) (.lg ty4 rfl rfl rfl (.pa rfl rfl (.mv rfl (.fg fd34_1 hfd34_1 rfl rfl rfl (.lg ty3 rfl rfl rfl (.c (.neI (.at rfl rfl) (.tmp rfl id) .i) (.pa rfl rfl (.nil (.cb rfl h (fun _ h => ?_) fun _ h => ?_))))))))))))))))))))))))))))
    ·
     exact .rn mx (.mv rfl (.asn rfl (.nil (.blkNormal (Ends.j _ (some_eq h))))))
    ·
     exact .skip (.blkNormal (Ends.j _ (some_eq h)))
   ·
    subst hj4; have h := hK4; clear hK4
    exact .rn mx (.adi rfl (.mv rfl (.nil (Ends.ag (some_eq h)))))
  ·
   refine .exit (.thenExit (.thenExit (.blkExit ?_)))
   replace h := hD2 _ (some_eq h)
   exact Ends.j _ (some_eq h)
 ·
  subst hj1; have h := hK1; clear hK1
  refine .sn mx (.mv rfl (.asn rfl (.nil (.ret ?_))))
  obtain rfl := some_eq h
  exact Ends.rt Tryd.results35 rfl

theorem edit_counting_ok {l1 : (List DOp)} {r : (List Bool)}  (h : edit_counting l1 = some r) : FSpec Tryd.prog 62 [rep l1] (rep r) := by
 unfold edit_counting at h
 obtain ⟨v1, hv1, h⟩ := bnd_some h
 obtain ⟨hn2, h⟩ := need_some h
 obtain ⟨out1, hv3, h⟩ := bnd_some h
 refine FSpec.i Tryd.func62 rfl Tryd.ntmps62 rfl (fun F => (.sn mx (.c (.assign .none (.const (x := ([] : (List Bool))) (fun M w => ⟨_, ⟨none, 0, rfl, Nat.le_refl _, by decide, rfl⟩, rfl⟩))) (.nil (.sr [oo, oo, ([], [9]), ([9], [3, 9])] mx (.mvA rfl (.cA (.re hv1 (.len .none sl22 (.s rfl))) (.cW (.makeSlice rk57 zo4 rfl (.s rfl) (.s rfl) hn2) (.cW (.passRow rfl (.tmp rfl)) (.nil (.reB (t := 3) rfl (congrArg (rowV 4) hv3) (.nameRow (t := 3) (g := 5001) rfl rfl rfl (fun s5001 => (.seq (.sr [oo, ([5001], []), oo] mx (.mvA rfl (.cA (.lenO (k := 5001) sl57 (.told (.s rfl) rfl)) (.cA (.move .none .i) (.nil ?_)))))))))))))))))))
 obtain ⟨j_4, h, hK4⟩ := bind_some h
 refine .thenJ (ι := (List Bool)) (fun j_4 => []) (fun j_4 => [(5001, some (CPred.at s5001 (rowV 4 j_4)))]) (fun s => j_4 = s) (.k2 0 3 rfl rfl .nil) SubB.nil ?_ (fun j_4' hj4 => ?_)
 ·
  refine .block (.rforL h (fun p5_ => [(12, ⟨True, rep p5_.1⟩)]) (fun p5_ => [(5001, some (CPred.at s5001 (rowV 4 p5_.2)))]) (.k 12 rfl .nil) (.k 5001 rfl .nil) (.k2 0 3 rfl rfl (.k 11 rfl .nil)) SubB.nil (fun p5_ o_5 h hD5 => (.sn mx (.lt rfl rfl (.nil (.seq (.cb rfl h (fun _ h => ?_) fun _ h => ?_)))))))
  ·
   refine .skip (.then (.seq ?_))
   obtain ⟨j_7, h, hK7⟩ := bind_some h
   unfold edit_counting_L1 at h
   refine .thenJ (ι := (List Bool)) (fun j_7 => []) (fun j_7 => [(5001, some (CPred.at s5001 (rowV 4 j_7)))]) (fun s => j_7 = s) (.k4 0 3 11 12 rfl rfl rfl rfl .nil) SubB.nil ?_ (fun j_7' hj7 => ?_)
   ·
    obtain ⟨hn8, h⟩ := need_some h
    exact .block (.sn mx (.mv rfl (.asn rfl (.nil (.rg [oo, oo, ([5001], []), ([5001], [5001])] mx (.mvA rfl (.mvA rfl (.ixO 5001 sl57 ty4 rfl rfl rfl hn8 (.cN (.storeElem0 (k := 5001) ty4 (.s rfl) rfl .bool hn8) (.nil (.blkNormal (Ends.j _ (some_eq h)))))))))))))
   ·
    subst hj7; have h := hK7; clear hK7
    exact .rn mx (.adi rfl (.mv rfl (.nil (Ends.ag (some_eq h)))))
  ·
   refine .exit (.thenExit (.thenExit (.blkExit ?_)))
   replace h := hD5 _ (some_eq h)
   exact Ends.j _ (some_eq h)
 ·
  subst hj4; have h := hK4; clear hK4
  obtain ⟨i1, hv9, h⟩ := bnd_some h
  refine .seq (.sn mx (.mv rfl (.ln sl22 rfl (.c (.subW .none (.s rfl) .i) (.ra hv9 rfl (.nil ?_))))))
  obtain ⟨j_10, h, hK10⟩ := bind_some h
  refine .thenJ (ι := (List Bool)) (fun j_10 => []) (fun j_10 => [(5001, some (CPred.at s5001 (rowV 4 j_10)))]) (fun s => j_10 = s) (.k 3 rfl .nil) SubB.nil ?_ (fun j_10' hj10 => ?_)
  ·
   refine .block (.loopL h (fun s11_ => [(5, ⟨True, rep s11_.1⟩)]) (fun s11_ => [(5001, some (CPred.at s5001 (rowV 4 s11_.2)))]) (.k 5 rfl .nil) (.k 5001 rfl .nil) (.k2 0 3 rfl rfl .nil) SubB.nil (fun s11_ o_11 h hD11 => ?_))
   unfold edit_counting_L2 at h
   refine .seq (.sn mx (.mv rfl (.c (.ge .none (.s rfl) .i) (.nil (.cb rfl h (fun _ h => ?_) fun _ h => ?_)))))
   ·
    refine .skip (.then (.seq ?_))
    obtain ⟨j_13, h, hK13⟩ := bind_some h
    refine .thenJ (ι := (List Bool)) (fun j_13 => []) (fun j_13 => [(5001, some (CPred.at s5001 (rowV 4 j_13)))]) (fun s => j_13 = s) (.k2 0 3 rfl rfl (.k 5 rfl .nil)) SubB.nil ?_ (fun j_13' hj13 => ?_)
    ·
     obtain ⟨hn14, h⟩ := need_some h
     obtain ⟨v2, hv15, h⟩ := bnd_some h
     obtain ⟨hn16, h⟩ := need_some h
     refine .block (.sr [oo, oo, oo, oo, ([], [6]), ([6], [6])] mx (.mvA rfl (.mvA rfl (.ixA sl22 ty34 rfl rfl hn14 (.rlA hv15 ty34 rfl (.al zo34 rfl (.st ty34 rfl rfl rfl (.nil (.freeze (t := 6) rfl rfl (.k 5001 rfl .nil) rfl (.sr [oo, oo, oo, oo, oo, oo, ([5001], []), ([5001], []), oo] mx (.faA fd34_1 hfd34_1 rfl (.ldA ty3 rfl (.cA (.eqI .none (.s rfl) .i) (.mvA rfl (.cA (.move (.at rfl rfl) (.s rfl)) (.cA (.move (.at rfl rfl) (.s rfl)) (.cA (.indexAddrO (k := 5001) (.at rfl rfl) sl57 ty4 (.tmp rfl id) rfl (.tmp rfl id) (fun hg => hn16 hg.2)) (.cA (.loadElem0 (k := 5001) (.at rfl rfl) ty4 (.tmp rfl id) rfl (fun hg => hn16 hg.2)) (.cA (.pickAnd .none (.s rfl) (.tmp rfl id)) (.nil (.cb rfl h (fun _ h => ?_) fun _ h => ?_)))))))))))))))))))))
     ·
      obtain ⟨hn18, h⟩ := need_some h
      exact .rg [oo, oo, oo, oo, oo, oo, oo, oo, oo, ([5001], []), ([5001], [5001])] mx (.mvA rfl (.mvA rfl (.faA fd34_0 hfd34_0 rfl (.faA fd32_2 hfd32_2 rfl (.ldA ty3 rfl (.subA rfl rfl (.faA fd34_5 hfd34_5 rfl (.ldA ty3 rfl (.addA rfl rfl (.ixO 5001 sl57 ty4 rfl rfl rfl hn18 (.cN (.storeElem0 (k := 5001) ty4 (.s rfl) rfl .bool hn18) (.nil (.blkNormal (Ends.j _ (some_eq h)))))))))))))))
     ·
      exact .skip (.blkNormal (Ends.j _ (some_eq h)))
    ·
     subst hj13; have h := hK13; clear hK13
     obtain ⟨i2, hv19, h⟩ := bnd_some h
     exact .rn mx (.mv rfl (.c (.subW .none (.s rfl) .i) (.ra hv19 rfl (.nil (Ends.ag (some_eq h))))))
   ·
    refine .exit (.thenExit (.thenExit (.blkExit ?_)))
    replace h := hD11 _ (some_eq h)
    exact Ends.j _ (some_eq h)
  ·
   subst hj10; have h := hK10; clear hK10
   refine .freezeRow (g := 5001) (ts := [3]) rfl (.cons (t := 3) rfl trivial .nil) SubB.nil rfl (.sn mx (.mv rfl (.asn rfl (.nil (.ret ?_)))))
   obtain rfl := some_eq h
   exact Ends.rt Tryd.results62 rfl

theorem edit_undone_1_ok {x1 : DOp} {c0_1 : Str} {r : Bool}  (h : edit_undone_1 x1 c0_1 = some r) : FSpec Tryd.prog 63 [rep x1, ref c0_1] (rep r) := by
 unfold edit_undone_1 at h
 refine FSpec.i Tryd.func63 rfl Tryd.ntmps63 rfl (fun F => (.sn mx (.c (.box .none (.s rfl)) (.asb (.nil (.sn mx (.fa fd34_0 hfd34_0 rfl (.fa fd32_1 hfd32_1 rfl (.ld ty9 rfl (.ld ty9 rfl (.c (.eqS .none (eqAt_str Tryd.underlying9) (.s rfl) (.s rfl)) (.mv rfl (.fg fd34_1 hfd34_1 rfl rfl rfl (.lg ty3 rfl rfl rfl (.c (.eqI (.at rfl rfl) (.tmp rfl id) .i) (.pa rfl rfl (.mv rfl (.fg fd34_5 hfd34_5 rfl rfl rfl (.lg ty3 rfl rfl rfl (.c (.eqI (.at rfl rfl) (.tmp rfl id) .i) (.pa rfl rfl (.asn rfl (.nil (.ret ?_))))))))))))))))))))))))
 obtain rfl := some_eq h
 exact Ends.rt Tryd.results63 rfl

theorem slices_IndexFunc_Op_ok {s1 : (List DOp)} {f1 : (DOp → Option Bool)} {r : Int}  (h : slices_IndexFunc_Op s1 f1 = some r) : FSpec Tryd.prog 46 [rep s1, fn1 Tryd.prog (rep (α := Bool)) f1] (rep r) := by
 unfold slices_IndexFunc_Op at h
 refine FSpec.i Tryd.func46 rfl Tryd.ntmps46 rfl (fun F => (.sn mx (.asi (.nil (.seq (.sn mx (.mv rfl (.ln sl22 rfl (.mvi (.nil ?_))))))))))
 obtain ⟨o_1, h, hK1⟩ := bindR_some h
 refine .tJ (fun s => o_1 = Res.nx s) Sub.nil SubB.nil ?_ (fun j_1 hj1 => ?_)
 ·
  refine .block (.rforEL h (fun p2_ => [(8, ⟨True, rep p2_.1⟩)]) (fun p2_ => []) (.k 8 rfl .nil) SubB.nil (.k2 0 1 rfl rfl (.k 7 rfl .nil)) SubB.nil (fun p2_ o_2 h hD2 => (.sn mx (.lt rfl rfl (.nil (.seq (.cb rfl h (fun _ h => ?_) fun _ h => ?_)))))))
  ·
   refine .skip (.then (.seq ?_))
   obtain ⟨o_4, h, hK4⟩ := bindD_some h
   unfold slices_IndexFunc_Op_L1 at h
   refine .tJ (fun s => o_4 = Res.nx s) (.k4 0 1 7 8 rfl rfl rfl rfl .nil) SubB.nil ?_ (fun j_4 hj4 => ?_)
   ·
    obtain ⟨hn5, h⟩ := need_some h
    obtain ⟨r1, hv6, h⟩ := bind_some h
    refine .block (.sn mx (.mv rfl (.asn rfl (.nil (.sn mx (.mv rfl (.mv rfl (.mv rfl (.ix sl22 ty34 rfl rfl hn5 (.ld ty34 rfl (.c (.callV (gx s1 p2_.1, r1) .none (.s rfl) (fun _ => hv6) (.cons (.s rfl) .nil)) (.nil (.cb rfl h (fun _ h => ?_) fun _ h => ?_)))))))))))))
    ·
     refine .sn mx (.mv rfl (.asn rfl (.nil (.ret (.blkRet (.thenRet (.thenRet (.blkRet (.thenRet ?_)))))))))
     replace h := resd_ab hK4 (some_eq h)
     replace h := hD2 _ (some_eq h)
     replace h := resb_ab hK1 (some_eq h)
     obtain rfl := some_eq h
     exact Ends.rt Tryd.results46 rfl
    ·
     exact .skip (.blkNormal (Ends.j _ (some_eq h)))
   ·
    have h := resd_nx hK4 hj4
    exact .rn mx (.adi rfl (.mv rfl (.nil (Ends.ag (some_eq h)))))
  ·
   refine .exit (.thenExit (.thenExit (.blkExit ?_)))
   replace h := hD2 _ (some_eq h)
   exact Ends.j _ (some_eq h)
 ·
  have h := resb_nx hK1 hj1
  refine .sn mx (.asi (.nil (.ret ?_)))
  obtain rfl := some_eq h
  exact Ends.rt Tryd.results46 rfl

theorem edit_undone_ok {l1 : (List DOp)} {site1 : Str} {find1 : ((List DOp) → (List Bool) → Option Int)} {r : ((List DOp) × Int)}  (h : edit_undone l1 site1 find1 = some r) : FSpec Tryd.prog 34 [rep l1, rep site1, fn2 Tryd.prog (rep (α := Int)) find1] (tup [rep r.1, rep r.2]) := by
 unfold edit_undone at h
 obtain ⟨e1, hv1, h⟩ := bind_some h
 refine FSpec.i Tryd.func34 rfl Tryd.ntmps34 rfl (fun F => (.sn mx (.c (.box .none (.s rfl)) (.c (.assign .none (.const (x := ([] : (List DOp))) (fun M w => ⟨_, ⟨none, 0, rfl, Nat.le_refl _, by decide, rfl⟩, rfl⟩))) (.asi (.nil (.seq (.sn mx (.mv rfl (.c (.call .none (edit_Check_ok hv1) (.cons (.s rfl) .nil)) (.asn rfl (.nil (.sn mx (.mv rfl (.nei rfl (.nil (.cb rfl h (fun _ h => ?_) fun _ h => ?_)))))))))))))))))
 ·
  refine .sn mx (.mv rfl (.c (.assign .none (.const (x := ([] : (List DOp))) (fun M w => ⟨_, ⟨none, 0, rfl, Nat.le_refl _, by decide, rfl⟩, rfl⟩))) (.asn rfl (.nil (.ret (.thenRet ?_))))))
  obtain rfl := some_eq h
  exact Ends.ret2 (.inl rfl) Tryd.results34 (ResOK.tmp rfl trivial Imp.refl) (ResOK.tmp rfl trivial Imp.refl)
 ·
  obtain ⟨r1, hv3, h⟩ := bind_some h
  refine .skip (.then (.seq (.sn mx (.ld ty9 rfl (.c (.call .none (edit_isName_ok hv3) (.cons (.s rfl) .nil)) (.c (.not .none (.s rfl)) (.nil (.cb rfl h (fun _ h => ?_) fun _ h => ?_))))))))
  ·
   refine .sn mx (.c (.assign .none (.const (x := ([] : (List DOp))) (fun M w => ⟨_, ⟨none, 0, rfl, Nat.le_refl _, by decide, rfl⟩, rfl⟩))) (.asi (.nil (.ret (.thenRet ?_)))))
   obtain rfl := some_eq h
   exact Ends.ret2 (.inl rfl) Tryd.results34 (ResOK.tmp rfl trivial Imp.refl) (ResOK.tmp rfl trivial Imp.refl)
  ·
   obtain ⟨r2, hv5, h⟩ := bind_some h
   refine .skip (.then (.sr [oo, oo, oo, oo, ([], [26]), ([26], [21, 26]), ([21], [27, 21]), oo, ([27], [9, 27]), oo] mx (.mvA rfl (.ldA ty9 rfl (.cA (.buildF (y := (⟨(0 : Int), site1, (0 : Int)⟩ : Stamp)) .none bu32 zc32 rfl (.cons (.s rfl) .nil) (.cons rfl sf32_1 .nil)) (.cA (.buildF (y := (⟨(⟨(0 : Int), site1, (0 : Int)⟩ : Stamp), 3, Str.nil, Str.nil, Str.nil, (0 : Int)⟩ : DOp)) .none bu34 zc34 rfl (.cons (.s rfl) (.cons .i .nil)) (.cons rfl sf34_0 (.cons rfl sf34_1 .nil))) (.cW (.cO [] (edit_further_ok hv5) (.cons (.s rfl) (.cons (.s rfl) .nil)) .nil rfl) (.cW (.passTupM rfl (.s rfl) (.tmp rfl)) (.cW (.extractC rfl (.tmp rfl)) (.exA rfl rfl (.cW (.passRow rfl (.tmp rfl)) (.asnA rfl (.nil (.nameRow (t := 9) (g := 5001) rfl rfl rfl (fun s5001 => (.seq (.sn mx (.mv rfl (.nei rfl (.nil (.cb rfl h (fun _ h => ?_) fun _ h => ?_)))))))))))))))))))))
   ·
    refine .sn mx (.mv rfl (.c (.assign .none (.const (x := ([] : (List DOp))) (fun M w => ⟨_, ⟨none, 0, rfl, Nat.le_refl _, by decide, rfl⟩, rfl⟩))) (.asn rfl (.nil (.ret (.thenRet ?_))))))
    obtain rfl := some_eq h
    exact Ends.ret2 (.inl rfl) Tryd.results34 (ResOK.tmp rfl trivial Imp.refl) (ResOK.tmp rfl trivial Imp.refl)
   ·
    obtain ⟨r3, hv7, h⟩ := bind_some h
    obtain ⟨k1, hv8, h⟩ := bind_some h
    refine .skip (.then (.sn mx (.mv rfl (.mv rfl (.mv rfl (.c (.call .none (edit_counting_ok hv7) (.cons (.s rfl) .nil)) (.c (.callV (l1, r3, k1) .none (.s rfl) (fun _ => hv8) (.cons (.s rfl) (.cons (.s rfl) .nil))) (.asn rfl (.nil (.seq (.sn mx (.mv rfl (.c (.lt .none (.s rfl) .i) (.nil (.cb rfl h (fun _ h => ?_) fun _ h => ?_)))))))))))))))
    ·
     refine .sn mx (.c (.assign .none (.const (x := ([] : (List DOp))) (fun M w => ⟨_, ⟨none, 0, rfl, Nat.le_refl _, by decide, rfl⟩, rfl⟩))) (.asi (.nil (.ret (.thenRet ?_)))))
     obtain rfl := some_eq h
     exact Ends.ret2 (.inl rfl) Tryd.results34 (ResOK.tmp rfl trivial Imp.refl) (ResOK.tmp rfl trivial Imp.refl)
    ·
     refine .skip (.then (.sr [oo, oo, ([5001], []), oo] mx (.mvA rfl (.cA (.makeFunc (ι := DOp × Bool) (pre := fun i => (fun x0 => edit_undone_1 x0 site1) i.1 = some i.2) (Ss := fun i => [rep i.1]) (S := fun i => rep i.2) .none fnok63 (fun i h => edit_undone_1_ok h) (.cons (.s rfl) .nil)) ?_))))
     obtain ⟨at1, hv10, h⟩ := bind_some h
     obtain ⟨hn11, h⟩ := need_some h
     obtain ⟨v1, hv12, h⟩ := bnd_some h
     obtain ⟨hn13, h⟩ := need_some h
     refine .cA (.callC .none fnok46 (fun hg => slices_IndexFunc_Op_ok  hv10) .rep (.lend (k := 5001) (.told (.s rfl) rfl) (.cons (.s rfl) .nil))) (.asnA rfl (.nil (.sr [oo, oo, oo, oo, oo, oo, oo, oo, ([5001], []), ([5001], []), ([5001], [5001])] mx (.mvA rfl (.mvA rfl (.mvA rfl (.mvA rfl (.ixA sl22 ty34 rfl rfl hn11 (.faA fd34_0 hfd34_0 rfl (.faA fd32_2 hfd32_2 rfl (.rlA hv12 ty3 rfl (.ixO 5001 sl22 ty34 rfl rfl rfl hn13 (.fe 5001 fd34_5 rfl rfl hn13 (.cN (.storeElem (k := 5001) ty3 (.s rfl) rfl sf34_5 (.s rfl) hn13) (.nil (.freezeRow (g := 5001) (ts := [9]) rfl (.cons (t := 9) rfl trivial .nil) SubB.nil rfl (.sn mx (.mv rfl (.asn rfl (.asi (.nil (.ret ?_))))))))))))))))))))))
     obtain rfl := some_eq h
     exact Ends.ret2 (.inl rfl) Tryd.results34 (ResOK.tmp rfl trivial Imp.refl) (ResOK.tmp rfl trivial Imp.refl)

theorem edit_Undo_ok {l1 : (List DOp)} {site1 : Str} {r : ((List DOp) × Int)}  (h : edit_Undo l1 site1 = some r) : FSpec Tryd.prog 8 [rep l1, rep site1] (tup [rep r.1, rep r.2]) := by
 unfold edit_Undo at h
 refine FSpec.i Tryd.func8 rfl Tryd.ntmps8 rfl (fun F => (.sn mx (.c (.box .none (.s rfl)) (.c (.assign .none (.const (x := ([] : (List DOp))) (fun M w => ⟨_, ⟨none, 0, rfl, Nat.le_refl _, by decide, rfl⟩, rfl⟩))) (.asi (.nil (.sn mx (.mv rfl (.ld ty9 rfl (.c (.makeFunc (ι := (List DOp) × (List Bool) × Int) (pre := fun i => (fun x0 x1 => edit_Undo_1 x0 x1 site1) i.1 i.2.1 = some i.2.2) (Ss := fun i => [rep i.1, rep i.2.1]) (S := fun i => rep i.2.2) .none fnok35 (fun i h => edit_Undo_1_ok h) (.cons (.s rfl) .nil)) ?_))))))))))
 obtain ⟨r1, hv1, h⟩ := bind_some h
 refine .c (.call .none (edit_undone_ok hv1) (.cons (.s rfl) (.cons (.s rfl) (.cons (.s rfl) .nil)))) (.ex rfl rfl (.ex rfl rfl (.asn rfl (.asn rfl (.nil (.ret ?_))))))
 obtain rfl := some_eq h
 exact Ends.ret2 (.inl rfl) Tryd.results8 (ResOK.tmp rfl trivial Imp.refl) (ResOK.tmp rfl trivial Imp.refl)

theorem edit_Redo_1_ok {l1 : (List DOp)} {counts1 : (List Bool)} {c0_1 : Str} {r : Int}  (h : edit_Redo_1 l1 counts1 c0_1 = some r) : FSpec Tryd.prog 36 [rep l1, rep counts1, ref c0_1] (rep r) := by
 unfold edit_Redo_1 at h
 refine FSpec.i Tryd.func36 rfl Tryd.ntmps36 rfl (fun F => (.sn mx (.asi (.nil (.sn mx (.asi (.nil (.seq (.sn mx (.mv rfl (.ln sl22 rfl (.mvi (.nil ?_)))))))))))))
 obtain ⟨j_1, h, hK1⟩ := bind_some h
 refine .thenJ (ι := Int) (fun j_1 => [(6, ⟨True, rep j_1⟩)]) (fun j_1 => []) (fun s => j_1 = s) Sub.nil SubB.nil ?_ (fun j_1' hj1 => ?_)
 ·
  refine .block (.rforL h (fun p2_ => [(11, ⟨True, rep p2_.1⟩), (6, ⟨True, rep p2_.2⟩)]) (fun p2_ => []) (.k2 11 6 rfl rfl .nil) SubB.nil (.k4 0 1 2 9 rfl rfl rfl rfl (.k 10 rfl .nil)) SubB.nil (fun p2_ o_2 h hD2 => (.sn mx (.lt rfl rfl (.nil (.seq (.cb rfl h (fun _ h => ?_) fun _ h => ?_)))))))
  ·
   refine .skip (.then (.seq ?_))
   obtain ⟨j_4, h, hK4⟩ := bind_some h
   unfold edit_Redo_1_L1 at h
   refine .thenJ (ι := Int) (fun j_4 => [(6, ⟨True, rep j_4⟩)]) (fun j_4 => []) (fun s => j_4 = s) (.k4 0 1 2 9 rfl rfl rfl rfl (.k2 10 11 rfl rfl .nil)) SubB.nil ?_ (fun j_4' hj4 => ?_)
   ·
    obtain ⟨hn5, h⟩ := need_some h
    obtain ⟨v1, hv6, h⟩ := bnd_some h
    refine .block (.sr [oo, oo, oo, ([], [8]), oo, ([8], [8])] mx (.mvA rfl (.ixA sl22 ty34 rfl rfl hn5 (.rlA hv6 ty34 rfl (.al zo34 rfl (.asnA rfl (.st ty34 rfl rfl rfl (.nil (.freeze (t := 8) rfl rfl SubB.nil rfl (.block (.sn mx (.fa fd34_0 hfd34_0 rfl (.fa fd32_1 hfd32_1 rfl (.ld ty9 rfl (.ld ty9 rfl (.c (.neS .none (eqAt_str Tryd.underlying9) (.s rfl) (.s rfl)) (.asn rfl (.nil (.cb rfl h (fun _ h => ?_) fun _ h => ?_)))))))))))))))))))
    ·
     exact .skip (.blkNormal (.blkNormal (Ends.j _ (some_eq h))))
    ·
     refine .sn mx (.fa fd34_1 hfd34_1 rfl (.ld ty3 rfl (.nei rfl (.asn rfl (.nil (.cb rfl h (fun _ h => ?_) fun _ h => ?_))))))
     ·
      exact .rn mx (.asi (.nil (.blkNormal (.blkNormal (Ends.j _ (some_eq h))))))
     ·
      obtain ⟨hn9, h⟩ := need_some h
      obtain ⟨hn10, h⟩ := need_some h
      refine .sn mx (.mv rfl (.mv rfl (.ix sl57 ty4 rfl rfl hn9 (.ld ty4 rfl (.mv rfl (.mg rfl rfl rfl (.mg rfl rfl rfl (.fg fd34_0 hfd34_0 rfl rfl rfl (.c (.fieldAddr (.at rfl rfl) fd32_2 hfd32_2 (.tmp rfl id)) (.lg ty3 rfl rfl rfl (.c (.subW (.at rfl rfl) (.tmp rfl id) (.tmp rfl id)) (.fg fd34_5 hfd34_5 rfl rfl rfl (.lg ty3 rfl rfl rfl (.c (.addW (.at rfl rfl) (.tmp rfl id) (.tmp rfl id)) (.c (.indexAddr (.at rfl rfl) sl22 ty34 (.tmp rfl id) (.tmp rfl id) (fun hg => hn10 hg.2)) (.c (.fieldAddr (.at rfl rfl) fd34_1 hfd34_1 (.tmp rfl id)) (.lg ty3 rfl rfl rfl (.c (.neI (.at rfl rfl) (.tmp rfl id) .i) (.pa rfl rfl (.asn rfl (.nil (.cb rfl h (fun _ h => ?_) fun _ h => ?_))))))))))))))))))))))
      ·
       exact .rn mx (.mv rfl (.asn rfl (.nil (.blkNormal (.blkNormal (Ends.j _ (some_eq h)))))))
      ·
       exact .skip (.blkNormal (.blkNormal (Ends.j _ (some_eq h))))
   ·
    subst hj4; have h := hK4; clear hK4
    exact .rn mx (.adi rfl (.mv rfl (.nil (Ends.ag (some_eq h)))))
  ·
   refine .exit (.thenExit (.thenExit (.blkExit ?_)))
   replace h := hD2 _ (some_eq h)
   exact Ends.j _ (some_eq h)
 ·
  subst hj1; have h := hK1; clear hK1
  refine .sn mx (.mv rfl (.asn rfl (.nil (.ret ?_))))
  obtain rfl := some_eq h
  exact Ends.rt Tryd.results36 rfl

theorem edit_Redo_ok {l1 : (List DOp)} {site1 : Str} {r : ((List DOp) × Int)}  (h : edit_Redo l1 site1 = some r) : FSpec Tryd.prog 9 [rep l1, rep site1] (tup [rep r.1, rep r.2]) := by
 unfold edit_Redo at h
 refine FSpec.i Tryd.func9 rfl Tryd.ntmps9 rfl (fun F => (.sn mx (.c (.box .none (.s rfl)) (.c (.assign .none (.const (x := ([] : (List DOp))) (fun M w => ⟨_, ⟨none, 0, rfl, Nat.le_refl _, by decide, rfl⟩, rfl⟩))) (.asi (.nil (.sn mx (.mv rfl (.ld ty9 rfl (.c (.makeFunc (ι := (List DOp) × (List Bool) × Int) (pre := fun i => (fun x0 x1 => edit_Redo_1 x0 x1 site1) i.1 i.2.1 = some i.2.2) (Ss := fun i => [rep i.1, rep i.2.1]) (S := fun i => rep i.2.2) .none fnok36 (fun i h => edit_Redo_1_ok h) (.cons (.s rfl) .nil)) ?_))))))))))
 obtain ⟨r1, hv1, h⟩ := bind_some h
 refine .c (.call .none (edit_undone_ok hv1) (.cons (.s rfl) (.cons (.s rfl) (.cons (.s rfl) .nil)))) (.ex rfl rfl (.ex rfl rfl (.asn rfl (.asn rfl (.nil (.ret ?_))))))
 obtain rfl := some_eq h
 exact Ends.ret2 (.inl rfl) Tryd.results9 (ResOK.tmp rfl trivial Imp.refl) (ResOK.tmp rfl trivial Imp.refl)

theorem ref_next_ok {l1 : (List DOp)} {site1 : Str} {r : Stamp}  (h : ref_next l1 site1 = some r) : FSpec Tryd.prog 37 [rep l1, rep site1] (rep r) := by
 unfold ref_next at h
 obtain ⟨v1, hv1, h⟩ := bnd_some h
 obtain ⟨v2, hv2, h⟩ := bnd_some h
 refine FSpec.i Tryd.func37 rfl Tryd.ntmps37 rfl (fun F => (.sr [([], [4])] mx (.al zo32 rfl (.nil (.reB (t := 4) rfl (congrArg (cont 32) hv1) (.nameBox (t := 4) (g := 5001) rfl rfl (fun m5001 => (.sr [oo, oo, ([], [5]), ([5], [5])] mx (.mvA rfl (.cA (.re hv2 (.buildF (y := (⟨1, site1, 1⟩ : Stamp)) .none bu32 zc32 rfl (.cons .i (.cons (.s rfl) (.cons .i .nil))) (.cons rfl sf32_0 (.cons rfl sf32_1 (.cons rfl sf32_2 .nil))))) (.al zo32 rfl (.st ty32 rfl rfl rfl (.nil (.nameBox (t := 5) (g := 5002) rfl rfl (fun m5002 => (.seq (.sn mx (.mv rfl (.ln sl22 rfl (.mvi (.nil ?_)))))))))))))))))))))
 obtain ⟨j_3, h, hK3⟩ := bind_some h
 refine .thenJ (ι := Stamp) (fun j_3 => []) (fun j_3 => [(5002, some (boxAt m5002 32 j_3))]) (fun s => j_3 = s) (.k2 4 5 rfl rfl .nil) (.k 5001 rfl .nil) ?_ (fun j_3' hj3 => ?_)
 ·
  refine .block (.rforL h (fun p4_ => [(12, ⟨True, rep p4_.1⟩)]) (fun p4_ => [(5002, some (boxAt m5002 32 p4_.2))]) (.k 12 rfl .nil) (.k 5002 rfl .nil) (.k4 1 4 5 10 rfl rfl rfl rfl (.k 11 rfl .nil)) (.k 5001 rfl .nil) (fun p4_ o_4 h hD4 => (.sn mx (.lt rfl rfl (.nil (.seq (.cb rfl h (fun _ h => ?_) fun _ h => ?_)))))))
  ·
   refine .skip (.then (.seq ?_))
   obtain ⟨j_6, h, hK6⟩ := bind_some h
   unfold ref_next_L1 at h
   refine .thenJ (ι := Stamp) (fun j_6 => []) (fun j_6 => [(5002, some (boxAt m5002 32 j_6))]) (fun s => j_6 = s) (.k4 1 4 5 10 rfl rfl rfl rfl (.k2 11 12 rfl rfl .nil)) (.k 5001 rfl .nil) ?_ (fun j_6' hj6 => ?_)
   ·
    obtain ⟨hn7, h⟩ := need_some h
    obtain ⟨v3, hv8, h⟩ := bnd_some h
    obtain ⟨v4, hv9, h⟩ := bnd_some h
    obtain ⟨s1, hv10, h⟩ := bnd_some h
    refine .block (.sr [oo, oo, ([], [7]), ([7], [7])] mx (.ixA sl22 ty34 rfl rfl hn7 (.rlA hv8 ty34 rfl (.al zo34 rfl (.st ty34 rfl rfl rfl (.nil (.freeze (t := 7) rfl rfl (.k2 5001 5002 rfl rfl .nil) rfl (.sr [oo, ([5002], []), oo, oo, oo, oo, oo, oo, ([5002], [5002])] mx (.cA (.fieldPtr .none fd32_0 (.s rfl)) (.cA (.loadAt (k := 5002) .none ty3 rfl (.s rfl) hfd32_0) (.faA fd34_0 hfd34_0 rfl (.faA fd32_0 hfd32_0 rfl (.ldA ty3 rfl (.cA (.addW .none (.s rfl) .i) (.cA (.re hv9 (.max2 .none (.s rfl) (.s rfl))) (.cA (.fieldPtr .none fd32_0 (.s rfl)) (.cN (.storeAt (g := 5002) ty3 rfl (.s rfl) sf32_0 (.s rfl)) (.nil (.reB (t := 5002) rfl (congrArg (fun y => boxAt m5002 32 y) hv10) (.sn mx (.fa fd34_0 hfd34_0 rfl (.fa fd32_1 hfd32_1 rfl (.ld ty9 rfl (.mv rfl (.c (.eqS .none (eqAt_str Tryd.underlying9) (.s rfl) (.s rfl)) (.nil (.cb rfl h (fun _ h => ?_) fun _ h => ?_)))))))))))))))))))))))))))
    ·
     obtain ⟨v5, hv12, h⟩ := bnd_some h
     exact .rg [oo, oo, oo, oo, oo, ([5002], [5002])] mx (.faA fd34_0 hfd34_0 rfl (.faA fd32_2 hfd32_2 rfl (.ldA ty3 rfl (.cA (.re hv12 (.addW .none (.s rfl) .i)) (.cA (.fieldPtr .none fd32_2 (.s rfl)) (.cN (.storeAt (g := 5002) ty3 rfl (.s rfl) sf32_2 (.s rfl)) (.nil (.blkNormal (Ends.j _ (some_eq h))))))))))
    ·
     exact .skip (.blkNormal (Ends.j _ (some_eq h)))
   ·
    subst hj6; have h := hK6; clear hK6
    exact .rn mx (.adi rfl (.mv rfl (.nil (Ends.ag (some_eq h)))))
  ·
   refine .exit (.thenExit (.thenExit (.blkExit ?_)))
   replace h := hD4 _ (some_eq h)
   exact Ends.j _ (some_eq h)
 ·
  subst hj3; have h := hK3; clear hK3
  refine .freezeBox (g := 5002) (ts := [5]) rfl (.cons (t := 5) rfl trivial .nil) (.k 5001 rfl .nil) rfl (.sr [oo, ([5001], [5001])] mx (.ldA ty32 rfl (.s0 5001 ty32 rfl rfl rfl (.nil (.fb 5001 [4] rfl (.cons (t := 4) rfl trivial .nil) (.ret ?_))))))
  obtain rfl := some_eq h
  exact Ends.ret1 (.inl rfl) Tryd.results37 (ResOK.cellR ty32 rfl trivial Imp.refl)

theorem ref_siteError_ok {l1 : (List DOp)} {site1 : Str} {r : Int}  (h : ref_siteError l1 site1 = some r) : FSpec Tryd.prog 38 [rep l1, rep site1] (rep r) := by
 unfold ref_siteError at h
 obtain ⟨r1, hv1, h⟩ := bind_some h
 obtain ⟨r2, hv2, h⟩ := bind_some h
 obtain ⟨r3, hv3, h⟩ := bind_some h
 obtain ⟨r4, hv4, h⟩ := bind_some h
 obtain ⟨r5, hv5, h⟩ := bind_some h
 obtain ⟨r6, hv6, h⟩ := bind_some h
 refine FSpec.i Tryd.func38 rfl Tryd.ntmps38 rfl (fun F => (.sn mx (.asi (.nil (.sn mx (.mv rfl (.c (.call .none (ref_NameOf_ok hv1) (.cons (.s rfl) .nil)) (.c (.not .none (.s rfl)) (.c (.call .none (ref_When_ok hv2) (.cons (.s rfl) (.cons .i .nil))) (.mv rfl (.ln sl22 rfl (.eqi rfl (.c (.call .none (ref_When_ok hv3) (.cons (.s rfl) (.cons .i .nil))) (.mv rfl (.mv rfl (.c (.call .none (ref_next_ok hv4) (.cons (.s rfl) (.cons (.s rfl) .nil))) (.c (.fieldV (proj := Stamp.Time) .none ft32_0 ty3 hfd32_0 rfl (.s rfl)) (.c (.gt .none (.s rfl) .i) (.c (.call .none (ref_When_ok hv5) (.cons (.s rfl) (.cons .i .nil))) (.c (.buildSlice (xs := [_, _, _]) .none sl71 ty23 hz23 (.cons (.s rfl) (.cons (.s rfl) (.cons (.s rfl) .nil))) rfl (by decide)) (.c (.call .none (ref_First_ok hv6) (.cons (.s rfl) .nil)) (.asn rfl (.nil (.ret ?_))))))))))))))))))))))))
 obtain rfl := some_eq h
 exact Ends.rt Tryd.results38 rfl

instance : Enc Stamp := Enc.via (fun x : Stamp => (x.Time, x.Site, x.No))
instance : Enc DOp := Enc.via (fun x : DOp => (x.Stamp, x.Kind, x.Id, x.Field, x.Value, x.Of))

theorem sortO_DOp : Sort.SWO (Proofs.ltOf sortC_DOp) := by
 have h : ∀ x y : { x : DOp // sortQ_DOp x }, Proofs.ltOf sortC_DOp x y = decide (cmpO x.1.Stamp.Site.b x.1.Stamp.No y.1.Stamp.Site.b y.1.Stamp.No < 0) := fun x y => rfl
 constructor
 ·
  intro x; rw [h, cmpO_self]; rfl
 ·
  intro x y z h1 h2
  rw [h] at *
  simp only [decide_eq_true_eq] at *
  exact (cmpO_trans (Int.le_of_lt h1) (Int.le_of_lt h2)).2 (.inl h1)
 ·
  intro x y z h1 h2
  rw [h] at *
  simp only [decide_eq_false_iff_not, Int.not_lt] at *
  have e1 := cmpO_swap x.1.Stamp.Site.b x.1.Stamp.No y.1.Stamp.Site.b y.1.Stamp.No
  have e2 := cmpO_swap y.1.Stamp.Site.b y.1.Stamp.No z.1.Stamp.Site.b z.1.Stamp.No
  have e3 := cmpO_swap x.1.Stamp.Site.b x.1.Stamp.No z.1.Stamp.Site.b z.1.Stamp.No
  have := (cmpO_trans (s := z.1.Stamp.Site.b) (n := z.1.Stamp.No) (t := y.1.Stamp.Site.b) (m := y.1.Stamp.No) (u := x.1.Stamp.Site.b) (k := x.1.Stamp.No) (by omega) (by omega)).1
  omega

theorem sortX_DOp_at (a1 a3 a4 a8 b1 b3 b4 b8 r : Int) (a2 a5 a6 a7 b2 b5 b6 b7 : Str) (w0 : World) (hr1 : Lib.compareBytes a2.b b2.b ≠ 0 → r = Lib.compareBytes a2.b b2.b) (hr2 : Lib.compareBytes a2.b b2.b = 0 → r = if a3 < b3 then (-1 : Int) else if b3 < a3 then 1 else 0) :
  Calls Tryd.prog 26 #[.agg #[.int .i64 a1, .string ⟨a2.b.toArray⟩, .int .i64 a3, .int .i64 a4, .string ⟨a5.b.toArray⟩, .string ⟨a6.b.toArray⟩, .string ⟨a7.b.toArray⟩, .int .i64 a8], .agg #[.int .i64 b1, .string ⟨b2.b.toArray⟩, .int .i64 b3, .int .i64 b4, .string ⟨b5.b.toArray⟩, .string ⟨b6.b.toArray⟩, .string ⟨b7.b.toArray⟩, .int .i64 b8]] w0 fun e w' => e = .returned (.int .i64 r) ∧ ∃ q os', w' = Go.Sort.grow (w0.drewN q) os' := by
 go_enter Tryd.func26, Tryd.ntmps26
 go_wp2
 obtain ⟨w1, hw1⟩ : ∃ w1, w1 = (w0.alloc (.cells #[.int .i64 a1, .string ⟨a2.b.toArray⟩, .int .i64 a3, .int .i64 a4, .string ⟨a5.b.toArray⟩, .string ⟨a6.b.toArray⟩, .string ⟨a7.b.toArray⟩, .int .i64 a8] 34)).alloc (.cells #[.int .i64 b1, .string ⟨b2.b.toArray⟩, .int .i64 b3, .int .i64 b4, .string ⟨b5.b.toArray⟩, .string ⟨b6.b.toArray⟩, .string ⟨b7.b.toArray⟩, .int .i64 b8] 34) := ⟨_, rfl⟩
 rw [← hw1]
 have k1 : w1.drew.cell? ⟨w0.heap.size, 1, none⟩ = some (.string ⟨a2.b.toArray⟩) := by rw [hw1]; go_simp
 have k2 : w1.drew.cell? ⟨w0.heap.size, 2, none⟩ = some (.int .i64 a3) := by rw [hw1]; go_simp
 have k3 : w1.drew.cell? ⟨w0.heap.size + 1, 1, none⟩ = some (.string ⟨b2.b.toArray⟩) := by rw [hw1]; go_simp
 have k4 : w1.drew.cell? ⟨w0.heap.size + 1, 2, none⟩ = some (.int .i64 b3) := by rw [hw1]; go_simp
 refine wp_region_still_tail 14 (by kernel_rfl) (by kernel_rfl) ?_
 change wpStill _ _ w1.drew (fun a' => wpList _ _ _ _ a' w1.drew) _ _
 generalize hw2 : w1.drew = w2 at *
 simp only [List.take_succ_cons, List.take_zero, List.drop_succ_cons, List.drop_zero]
 repeat still_step
 still_call (Proofs.Any.strings_Compare compareStr_lay _ _ _)
 repeat still_step
 still_call (cmpI_ok _ _ _)
 refine wpStill_nil ?_
 generalize hcc : (if a3 < b3 then (-1 : Int) else if b3 < a3 then 1 else 0) = cc
 go_wp2_with (go_at_call 54; refine Calls.mono (orJ_at _ _ _ _ r _ hr1 (fun h => (hr2 h).trans hcc) (pair_cells _ _ _ _).1 (pair_cells _ _ _ _).2) ?_; rintro e w' ⟨rfl, rfl⟩)
 go_ret
 exact ⟨rfl, 1, _, by rw [Go.Sort.alloc_eq_grow, ← hw2, hw1, Go.Sort.alloc_eq_grow, Go.Sort.alloc_eq_grow, Go.Sort.grow_grow, Go.Sort.drew_grow, Go.Sort.grow_grow]; rfl⟩
theorem sortX_DOp (x y : { x : DOp // sortQ_DOp x }) (w0 : World) : Calls Tryd.prog 26 #[.agg (Enc.enc x.1).toArray, .agg (Enc.enc y.1).toArray] w0 fun e w' => e = .returned (.int .i64 (sortC_DOp x y)) ∧ ∃ q os', w' = Go.Sort.grow (w0.drewN q) os' := by
 obtain ⟨⟨⟨a1, a2, a3⟩, a4, a5, a6, a7, a8⟩, hx⟩ := x
 obtain ⟨⟨⟨b1, b2, b3⟩, b4, b5, b6, b7, b8⟩, hy⟩ := y
 exact sortX_DOp_at a1 a3 a4 a8 b1 b3 b4 b8 (cmpO a2.b a3 b2.b b3) a2 a5 a6 a7 b2 b5 b6 b7 w0 (fun h => by rw [compareBytes_eq] at *; exact if_pos h) (fun h => by rw [compareBytes_eq] at h; exact if_neg (fun e => e h))

theorem slices_SortFunc_Op_ok {l r : List DOp} {s : Value} (h : slices_SortFunc_Op l = some r) : FSpecO Tryd.prog 48 [isV s, cloV 26 []] [(s, rowV 34 l)] (anyV) [some (rowV 34 r)] := by
 obtain ⟨hl, h⟩ := need_some h
 obtain rfl := some_eq h
 exact sortF_spec sortF34_lay rfl rfl fnok48 fnok26 Tryd.underlying34 ty34 sortO_DOp sortX_DOp hl.1 hl.2

theorem ref_put_ok {l1 : (List DOp)} {x1 : DOp} {r : (List DOp)}  (h : ref_put l1 x1 = some r) : FSpec Tryd.prog 39 [rep l1, rep x1] (rep r) := by
 unfold ref_put at h
 obtain ⟨r1, hv1, h⟩ := bind_some h
 obtain ⟨hn2, h⟩ := need_some h
 obtain ⟨out1, hv3, h⟩ := bnd_some h
 obtain ⟨r2, hv4, h⟩ := bind_some h
 refine FSpec.i Tryd.func39 rfl Tryd.ntmps39 rfl (fun F => (.sn mx (.c (.box .none (.s rfl)) (.c (.assign .none (.const (x := ([] : (List DOp))) (fun M w => ⟨_, ⟨none, 0, rfl, Nat.le_refl _, by decide, rfl⟩, rfl⟩))) (.nil (.sr [oo, ([], [7]), oo, oo, ([7], [10, 7]), ([10], [5, 10])] mx (.mvA rfl (.cW (.cO [] (slices_Clone_Op_ok hv1) (.cons (.s rfl) .nil) .nil rfl) (.ldA ty34 rfl (.cA (.buildSlice (xs := [_]) .none sl22 ty34 hz34 (.cons (.s rfl) .nil) rfl (by decide)) (.cW (.append (k := 7) rk22 rfl (.tmp rfl) (.s rfl) hn2) (.cW (.passRow rfl (.tmp rfl)) (.nil (.reB (t := 5) rfl (congrArg (rowV 34) hv3) (.nameRow (t := 5) (g := 5001) rfl rfl rfl (fun s5001 => (.sr [oo, ([5001], [5001])] mx (.mvA rfl (.cW (.cO [5001] (slices_SortFunc_Op_ok hv4) (.cons (.s rfl) (.cons .funcC .nil)) (.cons (k := 5001) rfl .nil) rfl) (.nil (.freezeRow (g := 5001) (ts := [5]) rfl (.cons (t := 5) rfl trivial .nil) SubB.nil rfl (.sn mx (.mv rfl (.asn rfl (.nil (.ret ?_))))))))))))))))))))))))))
 obtain rfl := some_eq h
 exact Ends.rt Tryd.results39 rfl

theorem ref_AddTo_ok {l1 : (List DOp)} {site1 : Str} {kind1 : Int} {id1 : Str} {field1 : Str} {value1 : Str} {r : ((List DOp) × Int)}  (h : ref_AddTo l1 site1 kind1 id1 field1 value1 = some r) : FSpec Tryd.prog 10 [rep l1, rep site1, rep kind1, rep id1, rep field1, rep value1] (tup [rep r.1, rep r.2]) := by
 unfold ref_AddTo at h
 obtain ⟨r1, hv1, h⟩ := bind_some h
 obtain ⟨v1, hv2, h⟩ := bnd_some h
 obtain ⟨r2, hv3, h⟩ := bind_some h
 obtain ⟨r3, hv4, h⟩ := bind_some h
 obtain ⟨r4, hv5, h⟩ := bind_some h
 obtain ⟨r5, hv6, h⟩ := bind_some h
 obtain ⟨r6, hv7, h⟩ := bind_some h
 obtain ⟨e1, hv8, h⟩ := bind_some h
 refine FSpec.i Tryd.func10 rfl Tryd.ntmps10 rfl (fun F => (.sn mx (.c (.assign .none (.const (x := ([] : (List DOp))) (fun M w => ⟨_, ⟨none, 0, rfl, Nat.le_refl _, by decide, rfl⟩, rfl⟩))) (.asi (.nil (.sr [oo, oo, oo, oo, oo, oo, oo, oo, ([], [14]), ([14], [14])] mx (.mvA rfl (.mvA rfl (.cA (.call .none (ref_next_ok hv1) (.cons (.s rfl) (.cons (.s rfl) .nil))) (.mvA rfl (.mvA rfl (.mvA rfl (.mvA rfl (.cA (.re hv2 (.buildF (y := (⟨r1, kind1, id1, field1, value1, (0 : Int)⟩ : DOp)) .none bu34 zc34 rfl (.cons (.s rfl) (.cons (.s rfl) (.cons (.s rfl) (.cons (.s rfl) (.cons (.s rfl) .nil))))) (.cons rfl sf34_0 (.cons rfl sf34_1 (.cons rfl sf34_2 (.cons rfl sf34_3 (.cons rfl sf34_4 .nil))))))) (.al zo34 rfl (.st ty34 rfl rfl rfl (.nil (.freeze (t := 14) rfl rfl SubB.nil rfl (.seq (.sn mx (.mv rfl (.c (.call .none (ref_NameOf_ok hv3) (.cons (.s rfl) .nil)) (.c (.not .none (.s rfl)) (.c (.call .none (ref_When_ok hv4) (.cons (.s rfl) (.cons .i .nil))) (.mv rfl (.nei rfl (.mv rfl (.mg rfl rfl rfl (.c (.neI (.at rfl rfl) (.tmp rfl id) .i) (.pa rfl rfl (.c (.call .none (ref_When_ok hv5) (.cons (.s rfl) (.cons .i .nil))) (.mv rfl (.mv rfl (.c (.call .none (ref_siteError_ok hv6) (.cons (.s rfl) (.cons (.s rfl) .nil))) (.ld ty34 rfl (.c (.call .none (ref_opError_ok hv7) (.cons (.s rfl) .nil)) (.c (.buildSlice (xs := [_, _, _, _]) .none sl71 ty23 hz23 (.cons (.s rfl) (.cons (.s rfl) (.cons (.s rfl) (.cons (.s rfl) .nil)))) rfl (by decide)) (.c (.call .none (ref_First_ok hv8) (.cons (.s rfl) .nil)) (.asn rfl (.nil (.sn mx (.mv rfl (.nei rfl (.nil (.cb rfl h (fun _ h => ?_) fun _ h => ?_)))))))))))))))))))))))))))))))))))))))))))))
 ·
  refine .sn mx (.mv rfl (.c (.assign .none (.const (x := ([] : (List DOp))) (fun M w => ⟨_, ⟨none, 0, rfl, Nat.le_refl _, by decide, rfl⟩, rfl⟩))) (.asn rfl (.nil (.ret (.thenRet ?_))))))
  obtain rfl := some_eq h
  exact Ends.ret2 (.inl rfl) Tryd.results10 (ResOK.tmp rfl trivial Imp.refl) (ResOK.tmp rfl trivial Imp.refl)
 ·
  obtain ⟨r7, hv10, h⟩ := bind_some h
  refine .skip (.then (.sn mx (.mv rfl (.ld ty34 rfl (.c (.call .none (ref_put_ok hv10) (.cons (.s rfl) (.cons (.s rfl) .nil))) (.asn rfl (.asi (.nil (.ret ?_)))))))))
  obtain rfl := some_eq h
  exact Ends.ret2 (.inl rfl) Tryd.results10 (ResOK.tmp rfl trivial Imp.refl) (ResOK.tmp rfl trivial Imp.refl)

theorem ref_CountingOf_ok {l1 : (List DOp)} {r : (List Bool)}  (h : ref_CountingOf l1 = some r) : FSpec Tryd.prog 40 [rep l1] (rep r) := by
 unfold ref_CountingOf at h
 obtain ⟨v1, hv1, h⟩ := bnd_some h
 obtain ⟨hn2, h⟩ := need_some h
 obtain ⟨out1, hv3, h⟩ := bnd_some h
 obtain ⟨i1, hv4, h⟩ := bnd_some h
 refine FSpec.i Tryd.func40 rfl Tryd.ntmps40 rfl (fun F => (.sn mx (.c (.assign .none (.const (x := ([] : (List Bool))) (fun M w => ⟨_, ⟨none, 0, rfl, Nat.le_refl _, by decide, rfl⟩, rfl⟩))) (.nil (.sr [oo, oo, ([], [8]), ([8], [3, 8])] mx (.mvA rfl (.cA (.re hv1 (.len .none sl22 (.s rfl))) (.cW (.makeSlice rk57 zo4 rfl (.s rfl) (.s rfl) hn2) (.cW (.passRow rfl (.tmp rfl)) (.nil (.reB (t := 3) rfl (congrArg (rowV 4) hv3) (.nameRow (t := 3) (g := 5001) rfl rfl rfl (fun s5001 => (.seq (.sn mx (.mv rfl (.ln sl22 rfl (.c (.subW .none (.s rfl) .i) (.ra hv4 rfl (.nil ?_))))))))))))))))))))
 obtain ⟨j_5, h, hK5⟩ := bind_some h
 refine .thenJ (ι := (List Bool)) (fun j_5 => []) (fun j_5 => [(5001, some (CPred.at s5001 (rowV 4 j_5)))]) (fun s => j_5 = s) (.k 3 rfl .nil) SubB.nil ?_ (fun j_5' hj5 => ?_)
 ·
  refine .block (.loopL h (fun s6_ => [(4, ⟨True, rep s6_.1⟩)]) (fun s6_ => [(5001, some (CPred.at s5001 (rowV 4 s6_.2)))]) (.k 4 rfl .nil) (.k 5001 rfl .nil) (.k2 0 3 rfl rfl .nil) SubB.nil (fun s6_ o_6 h hD6 => ?_))
  unfold ref_CountingOf_L1 at h
  refine .seq (.sn mx (.mv rfl (.c (.ge .none (.s rfl) .i) (.nil (.cb rfl h (fun _ h => ?_) fun _ h => ?_)))))
  ·
   refine .skip (.then (.seq ?_))
   obtain ⟨j_8, h, hK8⟩ := bind_some h
   refine .thenJ (ι := (List Bool)) (fun j_8 => []) (fun j_8 => [(5001, some (CPred.at s5001 (rowV 4 j_8)))]) (fun s => j_8 = s) (.k2 0 3 rfl rfl (.k 4 rfl .nil)) SubB.nil ?_ (fun j_8' hj8 => ?_)
   ·
    obtain ⟨hn9, h⟩ := need_some h
    obtain ⟨out2, hv10, h⟩ := bnd_some h
    obtain ⟨j1, hv11, h⟩ := bnd_some h
    refine .block (.sr [oo, oo, ([5001], []), ([5001], [5001])] mx (.mvA rfl (.mvA rfl (.ixO 5001 sl57 ty4 rfl rfl rfl hn9 (.cN (.storeElem0 (k := 5001) ty4 (.s rfl) rfl .bool hn9) (.nil (.reB (t := 5001) rfl (congrArg (fun y => CPred.at s5001 (rowV 4 y)) hv10) (.sn mx (.mv rfl (.adi rfl (.ra hv11 rfl (.nil (.block (.loopL h (fun s12_ => [(5, ⟨True, rep s12_.1⟩)]) (fun s12_ => [(5001, some (CPred.at s5001 (rowV 4 s12_.2)))]) (.k 5 rfl .nil) (.k 5001 rfl .nil) (.k2 0 3 rfl rfl (.k 4 rfl .nil)) SubB.nil (fun s12_ o_12 h hD12 => ?_)))))))))))))))
    unfold ref_CountingOf_L2 at h
    refine .seq (.sn mx (.mv rfl (.mv rfl (.ln sl22 rfl (.lt rfl rfl (.nil (.cb rfl h (fun _ h => ?_) fun _ h => ?_)))))))
    ·
     refine .skip (.then (.seq ?_))
     obtain ⟨j_14, h, hK14⟩ := bind_some h
     refine .thenJ (ι := (List Bool)) (fun j_14 => []) (fun j_14 => [(5001, some (CPred.at s5001 (rowV 4 j_14)))]) (fun s => j_14 = s) (.k4 0 3 4 5 rfl rfl rfl rfl .nil) SubB.nil ?_ (fun j_14' hj14 => ?_)
     ·
      obtain ⟨hn15, h⟩ := need_some h
      obtain ⟨hn16, h⟩ := need_some h
      obtain ⟨hn17, h⟩ := need_some h
      obtain ⟨hn18, h⟩ := need_some h
      obtain ⟨hn19, h⟩ := need_some h
      obtain ⟨hn20, h⟩ := need_some h
      refine .block (.sr [oo, oo, ([5001], []), ([5001], []), oo, oo, oo, oo, oo, oo, oo, oo, oo, oo, oo, oo, oo, oo, oo, oo, oo, oo, oo, oo, oo, oo, oo, oo, oo, oo, oo, oo, oo, oo, oo, oo, oo, oo, oo, oo, oo] mx (.mvA rfl (.mvA rfl (.ixO 5001 sl57 ty4 rfl rfl rfl hn15 (.cA (.loadElem0 (k := 5001) .none ty4 (.s rfl) rfl (fun _ => hn15)) (.mvA rfl (.cA (.move (.at rfl rfl) (.s rfl)) (.cA (.move (.at rfl rfl) (.s rfl)) (.cA (.indexAddr (.at rfl rfl) sl22 ty34 (.tmp rfl id) (.tmp rfl id) (fun hg => hn16 hg.2)) (.cA (.fieldAddr (.at rfl rfl) fd34_1 hfd34_1 (.tmp rfl id)) (.cA (.load (.at rfl rfl) ty3 (.tmp rfl id)) (.cA (.eqI (.at rfl rfl) (.tmp rfl id) .i) (.cA (.pickAnd .none (.s rfl) (.tmp rfl id)) (.mvA rfl (.cA (.move (.at rfl rfl) (.s rfl)) (.cA (.move (.at rfl rfl) (.s rfl)) (.cA (.indexAddr (.at rfl rfl) sl22 ty34 (.tmp rfl id) (.tmp rfl id) (fun hg => hn17 hg.2)) (.cA (.fieldAddr (.at rfl rfl) fd34_0 hfd34_0 (.tmp rfl id)) (.cA (.fieldAddr (.at rfl rfl) fd32_1 hfd32_1 (.tmp rfl id)) (.cA (.load (.at rfl rfl) ty9 (.tmp rfl id)) (.cA (.move (.at rfl rfl) (.s rfl)) (.cA (.move (.at rfl rfl) (.s rfl)) (.cA (.indexAddr (.at rfl rfl) sl22 ty34 (.tmp rfl id) (.tmp rfl id) (fun hg => hn18 hg.2)) (.cA (.fieldAddr (.at rfl rfl) fd34_0 hfd34_0 (.tmp rfl id)) (.cA (.fieldAddr (.at rfl rfl) fd32_1 hfd32_1 (.tmp rfl id)) (.cA (.load (.at rfl rfl) ty9 (.tmp rfl id)) (.cA (.eqS (.at rfl rfl) (eqAt_str Tryd.underlying9) (.tmp rfl id) (.tmp rfl id)) (.cA (.pickAnd .none (.s rfl) (.tmp rfl id)) (.mvA rfl (.cA (.move (.at rfl rfl) (.s rfl)) (.cA (.move (.at rfl rfl) (.s rfl)) (.cA (.indexAddr (.at rfl rfl) sl22 ty34 (.tmp rfl id) (.tmp rfl id) (fun hg => hn19 hg.2)) (.cA (.fieldAddr (.at rfl rfl) fd34_5 hfd34_5 (.tmp rfl id)) (.cA (.load (.at rfl rfl) ty3 (.tmp rfl id)) ?_))))))))))))))))))))))))))))))))))
      refine .cA (.move (.at rfl rfl) (.s rfl)) (.cA (.move (.at rfl rfl) (.s rfl)) (.cA (.indexAddr (.at rfl rfl) sl22 ty34 (.tmp rfl id) (.tmp rfl id) (fun hg => hn20 hg.2)) (.cA (.fieldAddr (.at rfl rfl) fd34_0 hfd34_0 (.tmp rfl id)) (.cA (.fieldAddr (.at rfl rfl) fd32_2 hfd32_2 (.tmp rfl id)) (.cA (.load (.at rfl rfl) ty3 (.tmp rfl id)) (.cA (.eqI (.at rfl rfl) (.tmp rfl id) (.tmp rfl id)) (.cA (.pickAnd .none (.s rfl) (.tmp rfl id)) (.nil (.cb rfl h (fun _ h => ?_) fun _ h => ?_)))))))))
      ·
       obtain ⟨hn22, h⟩ := need_some h
       exact .rg [oo, oo, ([5001], []), ([5001], [5001])] mx (.mvA rfl (.mvA rfl (.ixO 5001 sl57 ty4 rfl rfl rfl hn22 (.cN (.storeElem0 (k := 5001) ty4 (.s rfl) rfl .bool hn22) (.nil (.blkNormal (Ends.j _ (some_eq h))))))))
      ·
       exact .skip (.blkNormal (Ends.j _ (some_eq h)))
     ·
      subst hj14; have h := hK14; clear hK14
      obtain ⟨j2, hv23, h⟩ := bnd_some h
      exact .rn mx (.mv rfl (.adi rfl (.ra hv23 rfl (.nil (Ends.ag (some_eq h))))))
    ·
     refine .exit (.thenExit (.thenExit (.blkExit (.blkNormal ?_))))
     replace h := hD12 _ (some_eq h)
     exact Ends.j _ (some_eq h)
   ·
    subst hj8; have h := hK8; clear hK8
    obtain ⟨i2, hv24, h⟩ := bnd_some h
    exact .rn mx (.mv rfl (.c (.subW .none (.s rfl) .i) (.ra hv24 rfl (.nil (Ends.ag (some_eq h))))))
  ·
   refine .exit (.thenExit (.thenExit (.blkExit ?_)))
   replace h := hD6 _ (some_eq h)
   exact Ends.j _ (some_eq h)
 ·
  subst hj5; have h := hK5; clear hK5
  refine .freezeRow (g := 5001) (ts := [3]) rfl (.cons (t := 3) rfl trivial .nil) SubB.nil rfl (.sn mx (.mv rfl (.asn rfl (.nil (.ret ?_)))))
  obtain rfl := some_eq h
  exact Ends.rt Tryd.results40 rfl

theorem ref_UndoIn_ok {l1 : (List DOp)} {site1 : Str} {redo1 : Bool} {r : ((List DOp) × Int)}  (h : ref_UndoIn l1 site1 redo1 = some r) : FSpec Tryd.prog 11 [rep l1, rep site1, rep redo1] (tup [rep r.1, rep r.2]) := by
 unfold ref_UndoIn at h
 obtain ⟨e1, hv1, h⟩ := bind_some h
 refine FSpec.i Tryd.func11 rfl Tryd.ntmps11 rfl (fun F => (.sn mx (.c (.assign .none (.const (x := ([] : (List DOp))) (fun M w => ⟨_, ⟨none, 0, rfl, Nat.le_refl _, by decide, rfl⟩, rfl⟩))) (.asi (.nil (.seq (.sn mx (.mv rfl (.mv rfl (.c (.call .none (ref_siteError_ok hv1) (.cons (.s rfl) (.cons (.s rfl) .nil))) (.asn rfl (.nil (.sn mx (.mv rfl (.nei rfl (.nil (.cb rfl h (fun _ h => ?_) fun _ h => ?_)))))))))))))))))
 ·
  refine .sn mx (.mv rfl (.c (.assign .none (.const (x := ([] : (List DOp))) (fun M w => ⟨_, ⟨none, 0, rfl, Nat.le_refl _, by decide, rfl⟩, rfl⟩))) (.asn rfl (.nil (.ret (.thenRet ?_))))))
  obtain rfl := some_eq h
  exact Ends.ret2 (.inl rfl) Tryd.results11 (ResOK.tmp rfl trivial Imp.refl) (ResOK.tmp rfl trivial Imp.refl)
 ·
  obtain ⟨counts1, hv3, h⟩ := bind_some h
  obtain ⟨kind1, hv4, h⟩ := bnd_some h
  refine .skip (.then (.sn mx (.mv rfl (.c (.call .none (ref_CountingOf_ok hv3) (.cons (.s rfl) .nil)) (.asn rfl (.nil (.sn mx (.asi (.nil (.sr [([], [22]), ([22], [11, 22])] mx (.cW (.makeMap (K := Int) (V := Int) rfl) (.cW (.passRow rfl (.tmp rfl)) (.nil (.reB (t := 11) rfl (congrArg mapV hv4) (.nameMap (t := 11) (g := 5001) rfl rfl rfl (fun s5001 => (.seq (.sn mx (.mv rfl (.ln sl22 rfl (.mvi (.nil ?_))))))))))))))))))))))
  obtain ⟨j_5, h, hK5⟩ := bind_some h
  refine .thenJ (ι := (Int × (GMap Int Int))) (fun j_5 => [(10, ⟨True, rep j_5.1⟩)]) (fun j_5 => [(5001, some (CPred.at s5001 (mapV j_5.2)))]) (fun s => j_5 = s) (.k2 0 1 rfl rfl (.k 11 rfl .nil)) SubB.nil ?_ (fun j_5' hj5 => ?_)
  ·
   refine .block (.rforL h (fun p6_ => [(25, ⟨True, rep p6_.1⟩), (10, ⟨True, rep p6_.2.1⟩)]) (fun p6_ => [(5001, some (CPred.at s5001 (mapV p6_.2.2)))]) (.k2 25 10 rfl rfl .nil) (.k 5001 rfl .nil) (.k4 0 1 2 9 rfl rfl rfl rfl (.k2 11 23 rfl rfl (.k 24 rfl .nil))) SubB.nil (fun p6_ o_6 h hD6 => (.sn mx (.lt rfl rfl (.nil (.seq (.cb rfl h (fun _ h => ?_) fun _ h => ?_)))))))
   ·
    refine .skip (.then (.seq ?_))
    obtain ⟨j_8, h, hK8⟩ := bind_some h
    unfold ref_UndoIn_L1 at h
    refine .thenJ (ι := (Int × (GMap Int Int))) (fun j_8 => [(10, ⟨True, rep j_8.1⟩)]) (fun j_8 => [(5001, some (CPred.at s5001 (mapV j_8.2)))]) (fun s => j_8 = s) (.k4 0 1 2 9 rfl rfl rfl rfl (.k4 11 23 24 25 rfl rfl rfl rfl .nil)) SubB.nil ?_ (fun j_8' hj8 => ?_)
    ·
     obtain ⟨hn9, h⟩ := need_some h
     obtain ⟨v1, hv10, h⟩ := bnd_some h
     refine .block (.sr [oo, oo, oo, ([], [13]), oo, ([13], [13])] mx (.mvA rfl (.ixA sl22 ty34 rfl rfl hn9 (.rlA hv10 ty34 rfl (.al zo34 rfl (.asnA rfl (.st ty34 rfl rfl rfl (.nil (.freeze (t := 13) rfl rfl (.k 5001 rfl .nil) rfl (.seq (.sn mx (.fa fd34_0 hfd34_0 rfl (.fa fd32_1 hfd32_1 rfl (.ld ty9 rfl (.mv rfl (.c (.neS .none (eqAt_str Tryd.underlying9) (.s rfl) (.s rfl)) (.nil (.cb rfl h (fun _ h => ?_) fun _ h => ?_))))))))))))))))))
     ·
      exact .exit (.thenExit (.blkExit (Ends.j _ (some_eq h))))
     ·
      obtain ⟨kind2, hv12, h⟩ := bnd_some h
      refine .skip (.then (.sr [oo, oo, oo, oo, oo, oo, ([5001], [5001])] mx (.mvA rfl (.faA fd34_0 hfd34_0 rfl (.faA fd32_2 hfd32_2 rfl (.ldA ty3 rfl (.faA fd34_1 hfd34_1 rfl (.ldA ty3 rfl (.cN (.mapUpdate (q := 5001) mo63 (.s rfl) rfl (.s rfl) (.s rfl)) (.nil (.reB (t := 5001) rfl (congrArg (fun y => CPred.at s5001 (mapV y)) hv12) (.block (.sn mx (.fa fd34_1 hfd34_1 rfl (.ld ty3 rfl (.nei rfl (.mv rfl (.mg rfl rfl rfl (.pa rfl rfl (.asn rfl (.nil (.cb rfl h (fun _ h => ?_) fun _ h => ?_))))))))))))))))))))))
      ·
       exact .rn mx (.asi (.nil (.blkNormal (.blkNormal (Ends.j _ (some_eq h))))))
      ·
       obtain ⟨hn14, h⟩ := need_some h
       refine .sn mx (.fa fd34_1 hfd34_1 rfl (.ld ty3 rfl (.nei rfl (.mv rfl (.mg rfl rfl rfl (.mg rfl rfl rfl (.c (.indexAddr (.at rfl rfl) sl57 ty4 (.tmp rfl id) (.tmp rfl id) (fun hg => hn14 hg.2)) (.lg ty4 rfl rfl rfl (.pa rfl rfl (.asn rfl (.nil (.cb rfl h (fun _ h => ?_) fun _ h => ?_))))))))))))
       ·
        exact .rn mx (.fa fd34_0 hfd34_0 rfl (.fa fd32_2 hfd32_2 rfl (.ld ty3 rfl (.asn rfl (.nil (.blkNormal (.blkNormal (Ends.j _ (some_eq h)))))))))
       ·
        obtain ⟨hn16, h⟩ := need_some h
        refine .sr [oo, oo, oo, oo, oo, oo, oo, oo, oo, oo, oo, oo, oo, oo, oo, oo, ([5001], []), oo, oo, oo] mx (.faA fd34_1 hfd34_1 rfl (.ldA ty3 rfl (.cA (.eqI .none (.s rfl) .i) (.mvA rfl (.cA (.move (.at rfl rfl) (.s rfl)) (.cA (.pickAnd .none (.s rfl) (.tmp rfl id)) (.mvA rfl (.cA (.move (.at rfl rfl) (.s rfl)) (.cA (.move (.at rfl rfl) (.s rfl)) (.cA (.indexAddr (.at rfl rfl) sl57 ty4 (.tmp rfl id) (.tmp rfl id) (fun hg => hn16 hg.2)) (.cA (.load (.at rfl rfl) ty4 (.tmp rfl id)) (.cA (.pickAnd .none (.s rfl) (.tmp rfl id)) (.mvA rfl (.cA (.move (.at rfl rfl) (.s rfl)) (.cA (.fieldAddr (.at rfl rfl) fd34_5 hfd34_5 (.s rfl)) (.cA (.load (.at rfl rfl) ty3 (.tmp rfl id)) (.cA (.lookupG (q := 5001) (.at rfl rfl) mo63 zo3 ownMap_self (.tmp rfl id) rfl (.tmp rfl id)) (.cA (.neI (.at rfl rfl) (.tmp rfl id) .i) (.cA (.pickAnd .none (.s rfl) (.tmp rfl id)) (.asnA rfl (.nil (.cb rfl h (fun _ h => ?_) fun _ h => ?_))))))))))))))))))))))
        ·
         exact .rn mx (.fa fd34_0 hfd34_0 rfl (.fa fd32_2 hfd32_2 rfl (.ld ty3 rfl (.asn rfl (.nil (.blkNormal (.blkNormal (Ends.j _ (some_eq h)))))))))
        ·
         exact .skip (.blkNormal (.blkNormal (Ends.j _ (some_eq h))))
    ·
     subst hj8; have h := hK8; clear hK8
     exact .rn mx (.adi rfl (.mv rfl (.nil (Ends.ag (some_eq h)))))
   ·
    refine .exit (.thenExit (.thenExit (.blkExit ?_)))
    replace h := hD6 _ (some_eq h)
    exact Ends.j _ (some_eq h)
  ·
   subst hj5; have h := hK5; clear hK5
   refine .seq (.sn mx (.mv rfl (.eqi rfl (.nil (.cb rfl h (fun _ h => ?_) fun _ h => ?_)))))
   ·
    refine .sn mx (.c (.assign .none (.const (x := ([] : (List DOp))) (fun M w => ⟨_, ⟨none, 0, rfl, Nat.le_refl _, by decide, rfl⟩, rfl⟩))) (.asi (.nil (.ret (.thenRet ?_)))))
    obtain rfl := some_eq h
    exact Ends.ret2 (.inl rfl) Tryd.results11 (ResOK.tmp rfl trivial Imp.refl) (ResOK.tmp rfl trivial Imp.refl)
   ·
    obtain ⟨r1, hv19, h⟩ := bind_some h
    obtain ⟨r2, hv20, h⟩ := bind_some h
    refine .skip (.then (.sn mx (.mv rfl (.mv rfl (.mv rfl (.c (.call .none (ref_next_ok hv19) (.cons (.s rfl) (.cons (.s rfl) .nil))) (.mv rfl (.c (.buildF (y := (⟨r1, 3, Str.nil, Str.nil, Str.nil, j_5.1⟩ : DOp)) .none bu34 zc34 rfl (.cons (.s rfl) (.cons .i (.cons (.s rfl) .nil))) (.cons rfl sf34_0 (.cons rfl sf34_1 (.cons rfl sf34_5 .nil)))) (.c (.call .none (ref_put_ok hv20) (.cons (.s rfl) (.cons (.s rfl) .nil))) (.asn rfl (.asi (.nil (.ret ?_)))))))))))))
    obtain rfl := some_eq h
    exact Ends.ret2 (.inl rfl) Tryd.results11 (ResOK.tmp rfl trivial Imp.refl) (ResOK.tmp rfl trivial Imp.refl)

theorem slices_Equal_Op_ok {s1_1 : (List DOp)} {s2_1 : (List DOp)} {r : Bool}  (h : slices_Equal_Op s1_1 s2_1 = some r) : FSpec Tryd.prog 12 [rep s1_1, rep s2_1] (rep r) := by
 unfold slices_Equal_Op at h
 refine FSpec.i Tryd.func12 rfl Tryd.ntmps12 rfl (fun F => (.sn mx (.asb (.nil (.seq (.sn mx (.mv rfl (.ln sl22 rfl (.mv rfl (.ln sl22 rfl (.c (.neI .none (.s rfl) (.s rfl)) (.nil (.cb rfl h (fun _ h => ?_) fun _ h => ?_)))))))))))))
 ·
  refine .sn mx (.asb (.nil (.ret (.thenRet ?_))))
  obtain rfl := some_eq h
  exact Ends.rt Tryd.results12 rfl
 ·
  refine .skip (.then (.seq (.sn mx (.mv rfl (.ln sl22 rfl (.mvi (.nil ?_)))))))
  obtain ⟨o_2, h, hK2⟩ := bindR_some h
  refine .tJ (fun s => o_2 = Res.nx s) Sub.nil SubB.nil ?_ (fun j_2 hj2 => ?_)
  ·
   refine .block (.rforEL h (fun p3_ => [(13, ⟨True, rep p3_.1⟩)]) (fun p3_ => []) (.k 13 rfl .nil) SubB.nil (.k2 0 1 rfl rfl (.k 12 rfl .nil)) SubB.nil (fun p3_ o_3 h hD3 => (.sn mx (.lt rfl rfl (.nil (.seq (.cb rfl h (fun _ h => ?_) fun _ h => ?_)))))))
   ·
    refine .skip (.then (.seq ?_))
    obtain ⟨o_5, h, hK5⟩ := bindD_some h
    unfold slices_Equal_Op_L1 at h
    refine .tJ (fun s => o_5 = Res.nx s) (.k4 0 1 12 13 rfl rfl rfl rfl .nil) SubB.nil ?_ (fun j_5 hj5 => ?_)
    ·
     obtain ⟨hn6, h⟩ := need_some h
     obtain ⟨hn7, h⟩ := need_some h
     refine .block (.sn mx (.mv rfl (.asn rfl (.nil (.sn mx (.mv rfl (.mv rfl (.ix sl22 ty34 rfl rfl hn6 (.ld ty34 rfl (.mv rfl (.mv rfl (.ix sl22 ty34 rfl rfl hn7 (.ld ty34 rfl (.c (.neS .none eqa34 (.s rfl) (.s rfl)) (.nil (.cb rfl h (fun _ h => ?_) fun _ h => ?_))))))))))))))))
     ·
      refine .sn mx (.asb (.nil (.ret (.blkRet (.thenRet (.thenRet (.blkRet (.thenRet ?_))))))))
      replace h := resd_ab hK5 (some_eq h)
      replace h := hD3 _ (some_eq h)
      replace h := resb_ab hK2 (some_eq h)
      obtain rfl := some_eq h
      exact Ends.rt Tryd.results12 rfl
     ·
      exact .skip (.blkNormal (Ends.j _ (some_eq h)))
    ·
     have h := resd_nx hK5 hj5
     exact .rn mx (.adi rfl (.mv rfl (.nil (Ends.ag (some_eq h)))))
   ·
    refine .exit (.thenExit (.thenExit (.blkExit ?_)))
    replace h := hD3 _ (some_eq h)
    exact Ends.j _ (some_eq h)
  ·
   have h := resb_nx hK2 hj2
   refine .sn mx (.asb (.nil (.ret ?_)))
   obtain rfl := some_eq h
   exact Ends.rt Tryd.results12 rfl

theorem law_AddsMatch_ok {l1 : (List DOp)} {site1 : Str} {kind1 : Int} {id1 : Str} {field1 : Str} {value1 : Str} {r : Bool}  (h : law_AddsMatch l1 site1 kind1 id1 field1 value1 = some r) : FSpec Tryd.prog 3 [rep l1, rep site1, rep kind1, rep id1, rep field1, rep value1] (rep r) := by
 unfold law_AddsMatch at h
 obtain ⟨own1, hv1, h⟩ := bind_some h
 refine FSpec.i Tryd.func3 rfl Tryd.ntmps3 rfl (fun F => (.sn mx (.asb (.nil (.sn mx (.mv rfl (.c (.call .none (ref_OpsError_ok hv1) (.cons (.s rfl) .nil)) (.asn rfl (.nil (.seq (.sn mx (.mv rfl (.eqi rfl (.mv rfl (.mg rfl rfl rfl (.c (.len (.at rfl rfl) sl22 (.tmp rfl id)) (.c (.gt (.at rfl rfl) (.tmp rfl id) .i) (.pa rfl rfl (.nil (.cb rfl h (fun _ h => ?_) fun _ h => ?_))))))))))))))))))))
 ·
  obtain ⟨r1, hv3, h⟩ := bind_some h
  refine .sn mx (.c (.call .none (law_edits_ok hv3) .nil) (.asn rfl (.nil (.ret (.thenRet ?_)))))
  obtain rfl := some_eq h
  exact Ends.rt Tryd.results3 rfl
 ·
  obtain ⟨r2, hv4, h⟩ := bind_some h
  obtain ⟨r3, hv5, h⟩ := bind_some h
  obtain ⟨r4, hv6, h⟩ := bind_some h
  obtain ⟨r5, hv7, h⟩ := bind_some h
  refine .skip (.then (.sn mx (.mv rfl (.mv rfl (.mv rfl (.mv rfl (.mv rfl (.mv rfl (.c (.call .none (edit_Add_ok hv4) (.cons (.s rfl) (.cons (.s rfl) (.cons (.s rfl) (.cons (.s rfl) (.cons (.s rfl) (.cons (.s rfl) .nil))))))) (.mv rfl (.ex rfl rfl (.ex rfl rfl (.asn rfl (.asn rfl (.nil (.sn mx (.mv rfl (.mv rfl (.c (.call .none (edit_Undo_ok hv5) (.cons (.s rfl) (.cons (.s rfl) .nil))) (.mv rfl (.ex rfl rfl (.ex rfl rfl (.asn rfl (.asn rfl (.nil (.sn mx (.mv rfl (.mv rfl (.c (.call .none (edit_Redo_ok hv6) (.cons (.s rfl) (.cons (.s rfl) .nil))) (.mv rfl (.ex rfl rfl (.ex rfl rfl (.asn rfl (.asn rfl (.nil (.seq (.sn mx (.c (.call .none (law_edits_ok hv7) .nil) (.c (.not .none (.s rfl)) (.mv rfl (.mg rfl rfl rfl (.c (.neI (.at rfl rfl) (.tmp rfl id) .i) (.po rfl rfl (.nil (.cb rfl h (fun _ h => ?_) fun _ h => ?_)))))))))))))))))))))))))))))))))))))))))))))
  ·
   obtain ⟨r6, hv9, h⟩ := bind_some h
   refine .sn mx (.c (.call .none (law_edits_ok hv9) .nil) (.mv rfl (.mg rfl rfl rfl (.c (.len (.at rfl rfl) sl22 (.tmp rfl id)) (.c (.eqI (.at rfl rfl) (.tmp rfl id) .i) (.pa rfl rfl (.mv rfl (.mg rfl rfl rfl (.mg rfl rfl rfl (.c (.eqI (.at rfl rfl) (.tmp rfl id) (.tmp rfl id)) (.pa rfl rfl (.mv rfl (.mg rfl rfl rfl (.c (.len (.at rfl rfl) sl22 (.tmp rfl id)) (.c (.eqI (.at rfl rfl) (.tmp rfl id) .i) (.pa rfl rfl (.mv rfl (.mg rfl rfl rfl (.mg rfl rfl rfl (.c (.eqI (.at rfl rfl) (.tmp rfl id) (.tmp rfl id)) (.pa rfl rfl (.mv rfl (.mg rfl rfl rfl (.c (.len (.at rfl rfl) sl22 (.tmp rfl id)) (.c (.eqI (.at rfl rfl) (.tmp rfl id) .i) (.pa rfl rfl (.mv rfl (.mg rfl rfl rfl (.mg rfl rfl rfl (.c (.eqI (.at rfl rfl) (.tmp rfl id) (.tmp rfl id)) (.pa rfl rfl (.asn rfl (.nil (.ret (.thenRet ?_)))))))))))))))))))))))))))))))))))
   obtain rfl := some_eq h
   exact Ends.rt Tryd.results3 rfl
  ·
   obtain ⟨r7, hv10, h⟩ := bind_some h
   obtain ⟨r8, hv11, h⟩ := bind_some h
   obtain ⟨r9, hv12, h⟩ := bind_some h
   obtain ⟨r10, hv13, h⟩ := bind_some h
   refine .skip (.then (.sn mx (.mv rfl (.mv rfl (.mv rfl (.mv rfl (.mv rfl (.mv rfl (.c (.call .none (ref_AddTo_ok hv10) (.cons (.s rfl) (.cons (.s rfl) (.cons (.s rfl) (.cons (.s rfl) (.cons (.s rfl) (.cons (.s rfl) .nil))))))) (.mv rfl (.ex rfl rfl (.ex rfl rfl (.asn rfl (.asn rfl (.nil (.sn mx (.mv rfl (.mv rfl (.c (.call .none (ref_UndoIn_ok hv11) (.cons (.s rfl) (.cons (.s rfl) (.cons .bool .nil)))) (.mv rfl (.ex rfl rfl (.ex rfl rfl (.asn rfl (.asn rfl (.nil (.sn mx (.mv rfl (.mv rfl (.c (.call .none (ref_UndoIn_ok hv12) (.cons (.s rfl) (.cons (.s rfl) (.cons .bool .nil)))) (.mv rfl (.ex rfl rfl (.ex rfl rfl (.asn rfl (.asn rfl (.nil (.sn mx (.mv rfl (.mv rfl (.c (.eqI .none (.s rfl) (.s rfl)) (.mv rfl (.mg rfl rfl rfl (.mg rfl rfl rfl (.c (.callIf (.at rfl rfl) fnok12 (fun hg => slices_Equal_Op_ok ((fun hg => gd_some hv13 (hg.2)) hg)) (.cons (.tmp rfl id) (.cons (.tmp rfl id) .nil)) (fun h => h)) ?_)))))))))))))))))))))))))))))))))))))))))))
   obtain ⟨r11, hv14, h⟩ := bind_some h
   refine .pa rfl rfl (.mv rfl (.mg rfl rfl rfl (.mg rfl rfl rfl (.c (.eqI (.at rfl rfl) (.tmp rfl id) (.tmp rfl id)) (.pa rfl rfl (.mv rfl (.mg rfl rfl rfl (.mg rfl rfl rfl (.c (.callIf (.at rfl rfl) fnok12 (fun hg => slices_Equal_Op_ok ((fun hg => gd_some hv14 (hg.2)) hg)) (.cons (.tmp rfl id) (.cons (.tmp rfl id) .nil)) (fun h => h)) ?_)))))))))
   obtain ⟨r12, hv15, h⟩ := bind_some h
   refine .pa rfl rfl (.mv rfl (.mg rfl rfl rfl (.mg rfl rfl rfl (.c (.eqI (.at rfl rfl) (.tmp rfl id) (.tmp rfl id)) (.pa rfl rfl (.mv rfl (.mg rfl rfl rfl (.mg rfl rfl rfl (.c (.callIf (.at rfl rfl) fnok12 (fun hg => slices_Equal_Op_ok ((fun hg => gd_some hv15 (hg.2)) hg)) (.cons (.tmp rfl id) (.cons (.tmp rfl id) .nil)) (fun h => h)) (.pa rfl rfl (.asn rfl (.nil (.ret ?_)))))))))))))
   obtain rfl := some_eq h
   exact Ends.rt Tryd.results3 rfl


end Go.Proofs.YtfpmjncooelplaaDoor
