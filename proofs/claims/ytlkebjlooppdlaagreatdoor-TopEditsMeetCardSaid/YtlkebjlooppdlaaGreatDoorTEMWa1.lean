/-
  The walks: what a function computes is what its plain function says (printed by a program of one's own).
-/
import Derived.Test.YtlkebjlooppdlaaGreatDoorTEMFa
set_option maxRecDepth 100000
set_option linter.unusedSimpArgs false
set_option linter.unusedVariables false
namespace Go.Proofs.YtlkebjlooppdlaaGreatDoor
open Go Go.DB Go.RowKit

theorem utf8_ValidString_ok {s : Str} {r : Bool} (h : utf8_ValidString s = some r) : FSpec Tryz.prog 74 [rep s] (rep r) := by
 obtain rfl := some_eq h
 exact validS_spec validStr_lay rfl rfl rfl fnok74

theorem strings_Trim_ok {s cs : Str} {r : Str} (h : strings_Trim s cs = some r) : FSpec Tryz.prog 55 [rep s, rep cs] (rep r) := by
 obtain ⟨hn, h⟩ := need_some h
 obtain rfl := some_eq h
 exact trimS_spec trimStr_lay (by kernel_rfl) rfl fnok55 hn

theorem strings_Compare_ok {s sep : Str} {r : Int} (h : strings_Compare s sep = some r) : FSpec Tryz.prog 52 [rep s, rep sep] (rep r) := by
 obtain rfl := some_eq h
 exact compareS_spec compareStr_lay rfl fnok52

set_option maxHeartbeats 4000000 in
theorem slices_Insert_Op_ok {l v : List DOp} {i : Int} {r : List DOp} {s0 s2 : Value} (h : slices_Insert_Op l i v = some r) : FSpecO Tryz.prog 100 [isV s0, rep i, isV s2] [(s0, rowV 42 l), (s2, rowV 42 v)] (anyV) [none, none, some (rowV 42 r)] := by
 obtain ⟨⟨hi0, hi1, hb⟩, h⟩ := need_some h
 obtain rfl := some_eq h
 obtain ⟨i, rfl⟩ : ∃ n : Nat, i = n := ⟨i.toNat, by omega⟩
 simp only [Int.toNat_natCast]
 have hil : i ≤ l.length := by omega
 have hW : W ((l.length : Int) + v.length) = ((l.length + v.length : Nat) : Int) := W_eq (by unfold InI; omega)
 have hWi : W ((i : Int) + v.length) = ((i + v.length : Nat) : Int) := W_eq (by unfold InI; omega)
 have hWq : W (((l.length + v.length : Nat) : Int) - i) = ((l.length + v.length - i : Nat) : Int) := by rw [W_eq (by unfold InI; omega)]; omega
 refine FSpecO.intro fnok100 Tryz.func100 rfl Tryz.ntmps100 rfl (fun F => (.tellSl (k := 95) rfl (fun ad cap hs hlc hcm hsp hnil => ?_)))
 subst hs
 refine .tellSl (k := 96) rfl (fun ad2 cap2 hs2 hlc2 hcm2 hsp2 hnil2 => ?_)
 subst hs2
 refine .sn mx (.c (.assign (S := anyV) .none (fun _ _ => trivial)) (.nil (.sn mx (.mv rfl (.mv rfl (.c (.sliceV (lo := some _) (hi := none) sl22 ty42 (.s rfl) (.s rfl) rfl (by omega) (by omega) (by omega) hlc rfl) (.nil (.sn mx (.mv rfl (.c (.lenV sl22 (.s rfl) (by omega)) (.asn rfl (.nil (.seq (.sn mx (.mv rfl (.c (.eqI .none (.s rfl) .i) (.nil (.cond rfl trivial (fun hb1 => ?_) (fun hb1 => ?_)))))))))))))))))))
 ·
  have hv : v = [] := List.length_eq_zero_iff.1 (by simpa using hb1)
  exact .sn mx (.mv rfl (.asn rfl (.nil (.anon (t := 6) (g := 95) rfl rfl trivial rfl (.reB (t := 6) (C' := rowV 42 (l.take i ++ v ++ l.drop i)) rfl (congrArg (rowV 42) (by rw [hv, List.append_nil, List.take_append_drop])) (.ret (.thenRet (Ends.ret1O (.inl rfl) [95, 96, 6] Tryz.results100 (by decide) (.skip (.skip (.res rfl rfl))) (ResOK.tmp rfl trivial (fun _ _ _ _ => trivial))))))))))
 have hv0 : 0 < v.length := by simp at hb1; exact List.length_pos_iff.2 hb1
 refine .skip (.then (.sn mx (.mv rfl (.c (.lenV sl22 (.s rfl) (by omega)) (.asn rfl (.nil (.seq (.sn mx (.mv rfl (.mv rfl (.c (.eqI .none (.s rfl) (.s rfl)) (.nil (.cond rfl trivial (fun hb2 => ?_) (fun hb2 => ?_))))))))))))))
 ·
  have hin : i = l.length := by have := of_decide_eq_true hb2; omega
  exact .sr [oo, oo, ([95, 96], [25, 95]), ([25], [6, 25])] mx (.mvA rfl (.mvA rfl (.cW (.appendLent (k := 95) (k2 := 96) rk22 rfl (.told (.s rfl) rfl) (.s rfl) rfl (by omega) (by decide) inferInstance) (.cW (.passRow rfl (.tmp rfl)) (.nil (.reB (t := 6) (C' := rowV 42 (l.take i ++ v ++ l.drop i)) rfl (congrArg (rowV 42) (by rw [hin, List.take_length, List.drop_length, List.append_nil])) (.ret (.thenRet (Ends.ret1O (.inl rfl) [95, 96, 6] Tryz.results100 (by decide) (.skip (.skip (.res rfl rfl))) (ResOK.tmp rfl trivial (fun _ _ _ _ => trivial)))))))))))
 have hin : i < l.length := by have := of_decide_eq_false hb2; omega
 -- both lie somewhere
 obtain ⟨⟨b, off, sp⟩, rfl⟩ : ∃ x, ad = some x := by
  cases ad with
  | none => rw [hnil rfl] at hin; simp at hin
  | some x => exact ⟨x, rfl⟩
 obtain rfl : sp = none := hsp _ rfl
 obtain ⟨⟨vb, voff, sp2⟩, rfl⟩ : ∃ x, ad2 = some x := by
  cases ad2 with
  | none => rw [hnil2 rfl] at hv0; simp at hv0
  | some x => exact ⟨x, rfl⟩
 obtain rfl : sp2 = none := hsp2 _ rfl
 refine .skip (.then (.apartSl (k := 95) (k2 := 96) rfl rfl (by decide) (fun hne => ?_)))
 simp only at hne
 refine .seq (.sn mx (.mv rfl (.mv rfl (.c (.re hW.symm (.addW .none (.s rfl) (.s rfl))) (.mv rfl (.c (.capV sl22 (.s rfl) hcm) (.c (.gt .none (.s rfl) (.s rfl)) (.nil (.cond rfl trivial (fun hb3 => ?_) (fun hb3 => ?_))))))))))
 ·
  have hgrow : cap < l.length + v.length := by have := of_decide_eq_true hb3; omega
  have htl : (l.take i).length = i := by rw [List.length_take]; omega
  refine .sr [oo, oo, oo, oo, oo, oo, oo, oo, ([95], [40]), ([40], [9, 40])] mx (.mvA rfl (.mvA rfl (.cA (.sliceV (lo := none) (hi := some _) sl22 ty42 (.s rfl) rfl (.s rfl) (by omega) (by omega) (by omega) hlc sliced_headI) (.mvA rfl (.mvA rfl (.cA (.re hW.symm (.addW .none (.s rfl) (.s rfl))) (.mvA rfl (.cA (.re hWq.symm (.subW .none (.s rfl) (.s rfl))) (.cW (.appendZ (k := 95) (l := l) (i := i) (q := l.length + v.length - i) rk22 zo42 Tryz.underlying3 rfl (.s rfl) rfl hil (.s rfl) (by omega) (by omega) (by omega)) (.cW (.passRow rfl (.tmp rfl)) (.nil (.nameRow (t := 9) (g := 5001) rfl rfl rfl (fun s9 => .tellSl (k := 5001) rfl (fun ad9 cap9 hs9 hl9 hc9 hsp9 hnil9 => ?_))))))))))))))
  obtain ⟨z, hz⟩ : ∃ z, z = (⟨(⟨(0 : Int), Str.nil, (0 : Int)⟩ : Stamp), (0 : Int), Str.nil, Str.nil, Str.nil, (0 : Int)⟩ : DOp) := ⟨_, rfl⟩
  rw [← hz] at hs9 hl9 hnil9
  have hlen : (l.take i ++ List.replicate (l.length + v.length - i) z).length = l.length + v.length := by rw [List.length_append, htl, List.length_replicate]; omega
  rw [hlen] at hs9 hl9
  subst hs9
  obtain ⟨⟨b9, o9, sp9⟩, rfl⟩ : ∃ x, ad9 = some x := by
   cases ad9 with
   | none => have := congrArg List.length (hnil9 rfl); rw [hlen, List.length_nil] at this; omega
   | some x => exact ⟨x, rfl⟩
  obtain rfl : sp9 = none := hsp9 _ rfl
  refine .sr [oo, oo, oo, oo, ([5001, 96], [5001])] mx (.mvA rfl (.mvA rfl (.cA (.sliceV (lo := some _) (hi := none) sl22 ty42 (.s rfl) (.s rfl) rfl (by omega) (by omega) (by omega) hl9 (sliced_atI (by omega))) (.mvA rfl (.cW (.copyIn (k := 5001) (k2 := 96) (A := l.take i) (C := List.replicate (l.length - i) z) (m := v.length) (p := 0) (N := l.length + v.length) (R := l.take i ++ v ++ List.replicate (l.length - i) z) rk22 (.s rfl) (.s rfl) (by rw [htl]) (by rw [Nat.zero_mul]; rfl) (by omega) rfl (by omega) (by rw [htl, List.length_replicate]; omega) (by rw [List.drop_zero]) rfl (fun M D w h => by
   rw [← hz, show l.length + v.length - i = v.length + (l.length - i) by omega, ← List.replicate_append_replicate, ← List.append_assoc] at h
   have := gap_of_row (n := l.length + v.length) h
   rwa [List.length_replicate] at this) rfl) (.nil ?_))))))
  refine .sr [oo, oo, oo, oo, oo, oo, oo, oo, ([5001, 95], [5001])] mx (.mvA rfl (.mvA rfl (.mvA rfl (.cA (.re hWi.symm (.addW .none (.s rfl) (.s rfl))) (.cA (.sliceV (lo := some _) (hi := none) sl22 ty42 (.s rfl) (.s rfl) rfl (by omega) (by omega) (by omega) hl9 (sliced_atI (by omega))) (.mvA rfl (.mvA rfl (.cA (.sliceV (lo := some _) (hi := none) sl22 ty42 (.s rfl) (.s rfl) rfl (by omega) (by omega) (by omega) hlc (sliced_atI (by omega))) (.cW (.copyIn (k := 5001) (k2 := 95) (A := l.take i ++ v) (C := []) (m := l.length - i) (p := i) (N := l.length + v.length) (R := l.take i ++ v ++ l.drop i) rk22 (.s rfl) (.s rfl) (by rw [List.length_append, htl]) rfl (by omega) rfl (by omega) (by rw [List.length_append, htl, List.length_nil]; omega) (by rw [List.append_nil]) rfl (fun M D w h => by
   rw [← List.append_nil (l.take i ++ v ++ List.replicate (l.length - i) z)] at h
   have := gap_of_row (n := l.length + v.length) h
   rwa [List.length_replicate] at this) rfl) (.nil ?_))))))))))
  exact .sn mx (.mv rfl (.asn rfl (.nil (.anon (t := 6) (g := 5001) rfl rfl trivial rfl (.ret (.thenRet (Ends.ret1O (.inl rfl) [95, 96, 6] Tryz.results100 (by decide) (.skip (.skip (.res rfl rfl))) (ResOK.tmp rfl trivial (fun _ _ _ _ => trivial)))))))))
 have hroom : l.length + v.length ≤ cap := by have := of_decide_eq_false hb3; omega
 refine .skip (.then (.sn mx (.mv rfl (.mv rfl (.mv rfl (.c (.re hW.symm (.addW .none (.s rfl) (.s rfl))) (.c (.sliceV (lo := none) (hi := some _) sl22 ty42 (.s rfl) rfl (.s rfl) (by omega) (by omega) (by omega) hlc sliced_headI) (.asn rfl (.nil (.seq (.sr [oo, oo, oo, oo, oo, oo, ([95, 96], []), oo] mx (.mvA rfl (.mvA rfl (.mvA rfl (.mvA rfl (.cA (.re hWi.symm (.addW .none (.s rfl) (.s rfl))) (.cA (.sliceV (lo := some _) (hi := none) sl22 ty42 (.s rfl) (.s rfl) rfl (by omega) (by omega) (by omega) hroom (sliced_atI (by omega))) (.cA (.overlapsV 4 (f := 132) (k := 95) (k2 := 96) rk22 Tryz.func132 (by kernel_rfl) (by kernel_rfl) (by kernel_rfl) (by kernel_rfl) (.s rfl) (.s rfl) rfl rfl (Ne.symm hne) (by intro e; rw [e] at hin; simp at hin)) (.cA (.not .none (.s rfl)) (.nil (.cond rfl trivial (fun _ => ?_) (fun hf => by simp at hf))))))))))))))))))))))
 refine .sr [oo, oo, oo, oo, oo, oo, oo, oo, ([95], [95])] mx (.mvA rfl (.mvA rfl (.mvA rfl (.cA (.re hWi.symm (.addW .none (.s rfl) (.s rfl))) (.cA (.sliceV (lo := some _) (hi := none) sl22 ty42 (.s rfl) (.s rfl) rfl (by omega) (by omega) (by omega) hroom (sliced_atI (by omega))) (.mvA rfl (.mvA rfl (.cA (.sliceV (lo := some _) (hi := none) sl22 ty42 (.s rfl) (.s rfl) rfl (by omega) (by omega) (by omega) hroom (sliced_atI (by omega))) (.cW (.copyUp (k := 95) (l := l) (i := i) (m := v.length) rk22 (.s rfl) (.s rfl) rfl rfl (by omega) (by omega) rfl hil hroom) (.nil ?_))))))))))
 have htl : (l.take i).length = i := by rw [List.length_take]; omega
 exact .sr [oo, oo, oo, oo, ([95, 96], [95])] mx (.mvA rfl (.mvA rfl (.cA (.sliceV (lo := some _) (hi := none) sl22 ty42 (.s rfl) (.s rfl) rfl (by omega) (by omega) (by omega) hroom (sliced_atI (by omega))) (.mvA rfl (.cW (.copyIn (k := 95) (k2 := 96) (A := l.take i) (C := l.drop i) (m := v.length) (p := 0) (N := l.length + v.length) (R := l.take i ++ v ++ l.drop i) rk22 (.s rfl) (.s rfl) (by rw [htl]) (by rw [Nat.zero_mul]; rfl) (by omega) rfl (by omega) (by rw [htl, List.length_drop]; omega) (by rw [List.drop_zero]) rfl (fun _ _ _ h => h) rfl) (.nil (.sn mx (.mv rfl (.asn rfl (.nil (.anon (t := 6) (g := 95) rfl rfl trivial rfl (.ret (.thenRet (Ends.ret1O (.inl rfl) [95, 96, 6] Tryz.results100 (by decide) (.skip (.skip (.res rfl rfl))) (ResOK.tmp rfl trivial (fun _ _ _ _ => trivial))))))))))))))))
theorem slices_Grow_Op_ok {n : Int} {r : List DOp} (h : slices_Grow_Op n = some r) : FSpecO Tryz.prog 67 [isV (.slice none 0 0), rep n] [] (anyV) [some (rowV 42 r)] := by
 obtain ⟨hn, h⟩ := need_some h
 obtain rfl := some_eq h
 exact growNil_spec growNil42_lay rk22 rfl rfl fnok67 hn

theorem edit_isName_ok {s1 : Str} {r : Bool}  (h : edit_isName s1 = some r) : FSpec Tryz.prog 29 [rep s1] (rep r) := by
 unfold edit_isName at h
 obtain ⟨hn1, h⟩ := need_some h
 obtain ⟨hn2, h⟩ := need_some h
 obtain ⟨r1, hv3, h⟩ := bind_some h
 refine FSpec.i Tryz.func29 rfl Tryz.ntmps29 rfl (fun F => (.sn mx (.asb (.nil (.sn mx (.mv rfl (.c (.neS .none (eqAt_str Tryz.underlying9) (.s rfl) (.str (l := []) (by decide))) (.mv rfl (.mg rfl rfl rfl (.c (.lenStr (.at rfl rfl) Tryz.underlying9 (.tmp rfl id)) (.c (.le (.at rfl rfl) (.tmp rfl id) .i) (.pa rfl rfl (.mv rfl (.mg rfl rfl rfl (.c (.indexStr (.at rfl rfl) Tryz.underlying9 (.tmp rfl id) .i (fun hg => hn1 hg.2)) (.c (.kgeq (.at rfl rfl) (.tmp rfl id) .ki) (.pa rfl rfl (.mv rfl (.mg rfl rfl rfl (.c (.indexStr (.at rfl rfl) Tryz.underlying9 (.tmp rfl id) .i (fun hg => hn2 hg.2)) (.c (.kleq (.at rfl rfl) (.tmp rfl id) .ki) (.pa rfl rfl (.mv rfl (.mg rfl rfl rfl (.c (.callIf (.at rfl rfl) fnok55 (fun hg => strings_Trim_ok ((fun hg => gd_some hv3 (hg.2)) hg)) (.cons (.tmp rfl id) (.cons (.str (l := [97, 98, 99, 100, 101, 102, 103, 104, 105, 106, 107, 108, 109, 110, 111, 112, 113, 114, 115, 116, 117, 118, 119, 120, 121, 122, 48, 49, 50, 51, 52, 53, 54, 55, 56, 57, 45]) (by decide)) .nil)) (fun h => h)) (.c (.eqS (.at rfl rfl) (eqAt_str Tryz.underlying9) (.tmp rfl id) (.str (l := []) (by decide))) (.pa rfl rfl (.asn rfl (.nil (.ret ?_))))))))))))))))))))))))))))))
 obtain rfl := some_eq h
 exact Ends.rt Tryz.results29 rfl

theorem cmp_isNaN_int_ok {x1 : Int} {r : Bool}  (h : cmp_isNaN_int x1 = some r) : FSpec Tryz.prog 73 [rep x1] (rep r) := by
 unfold cmp_isNaN_int at h
 refine FSpec.i Tryz.func73 rfl Tryz.ntmps73 rfl (fun F => (.sn mx (.asb (.nil (.sn mx (.mv rfl (.mv rfl (.c (.neI .none (.s rfl) (.s rfl)) (.asn rfl (.nil (.ret ?_)))))))))))
 obtain rfl := some_eq h
 exact Ends.rt Tryz.results73 rfl

theorem cmp_Compare_int_ok {x1 : Int} {y1 : Int} {r : Int}  (h : cmp_Compare_int x1 y1 = some r) : FSpec Tryz.prog 53 [rep x1, rep y1] (rep r) := by
 unfold cmp_Compare_int at h
 obtain ⟨xNaN1, hv1, h⟩ := bind_some h
 obtain ⟨yNaN1, hv2, h⟩ := bind_some h
 refine FSpec.i Tryz.func53 rfl Tryz.ntmps53 rfl (fun F => (.sn mx (.asi (.nil (.sn mx (.mv rfl (.c (.call .none (cmp_isNaN_int_ok hv1) (.cons (.s rfl) .nil)) (.asn rfl (.nil (.sn mx (.mv rfl (.c (.call .none (cmp_isNaN_int_ok hv2) (.cons (.s rfl) .nil)) (.asn rfl (.nil (.seq (.sn mx (.mv rfl (.nil (.cb rfl h (fun _ h => ?_) fun _ h => ?_)))))))))))))))))))
 ·
  refine .seq (.sn mx (.mv rfl (.nil (.cb rfl h (fun _ h => ?_) fun _ h => ?_))))
  ·
   refine .sn mx (.asi (.nil (.ret (.thenRet (.thenRet ?_)))))
   obtain rfl := some_eq h
   exact Ends.rt Tryz.results53 rfl
  ·
   refine .skip (.then (.sn mx (.asi (.nil (.ret (.thenRet ?_))))))
   obtain rfl := some_eq h
   exact Ends.rt Tryz.results53 rfl
 ·
  refine .skip (.then (.seq (.sn mx (.mv rfl (.nil (.cb rfl h (fun _ h => ?_) fun _ h => ?_))))))
  ·
   refine .sn mx (.asi (.nil (.ret (.thenRet ?_))))
   obtain rfl := some_eq h
   exact Ends.rt Tryz.results53 rfl
  ·
   refine .skip (.then (.seq (.sn mx (.mv rfl (.mv rfl (.lt rfl rfl (.nil (.cb rfl h (fun _ h => ?_) fun _ h => ?_))))))))
   ·
    refine .sn mx (.asi (.nil (.ret (.thenRet ?_))))
    obtain rfl := some_eq h
    exact Ends.rt Tryz.results53 rfl
   ·
    refine .skip (.then (.seq (.sn mx (.mv rfl (.mv rfl (.c (.gt .none (.s rfl) (.s rfl)) (.nil (.cb rfl h (fun _ h => ?_) fun _ h => ?_))))))))
    ·
     refine .sn mx (.asi (.nil (.ret (.thenRet ?_))))
     obtain rfl := some_eq h
     exact Ends.rt Tryz.results53 rfl
    ·
     refine .skip (.then (.sn mx (.asi (.nil (.ret ?_)))))
     obtain rfl := some_eq h
     exact Ends.rt Tryz.results53 rfl

theorem cmp_Or_int_ok {vals1 : (List Int)} {r : Int}  (h : cmp_Or_int vals1 = some r) : FSpec Tryz.prog 51 [rep vals1] (rep r) := by
 unfold cmp_Or_int at h
 refine FSpec.i Tryz.func51 rfl Tryz.ntmps51 rfl (fun F => (.sn mx (.asi (.nil (.sn mx (.asi (.nil (.seq (.sn mx (.mv rfl (.ln sl105 rfl (.mvi (.nil ?_)))))))))))))
 obtain ⟨o_1, h, hK1⟩ := bindR_some h
 refine .tJ (fun s => o_1 = Res.nx s) (.k 3 rfl .nil) SubB.nil ?_ (fun j_1 hj1 => ?_)
 ·
  refine .block (.rforEL h (fun p2_ => [(8, ⟨True, rep p2_.1⟩)]) (fun p2_ => []) (.k 8 rfl .nil) SubB.nil (.k2 3 6 rfl rfl (.k 7 rfl .nil)) SubB.nil (fun p2_ o_2 h hD2 => (.sn mx (.lt rfl rfl (.nil (.seq (.cb rfl h (fun _ h => ?_) fun _ h => ?_)))))))
  ·
   refine .skip (.then (.seq ?_))
   obtain ⟨o_4, h, hK4⟩ := bindD_some h
   unfold cmp_Or_int_L1 at h
   refine .tJ (fun s => o_4 = Res.nx s) (.k4 3 6 7 8 rfl rfl rfl rfl .nil) SubB.nil ?_ (fun j_4 hj4 => ?_)
   ·
    obtain ⟨hn5, h⟩ := need_some h
    obtain ⟨val1, hv6, h⟩ := bnd_some h
    refine .block (.sn mx (.ix sl105 ty3 rfl rfl hn5 (.ld ty3 rfl (.ra hv6 rfl (.nil (.sn mx (.mv rfl (.mv rfl (.c (.neI .none (.s rfl) (.s rfl)) (.nil (.cb rfl h (fun _ h => ?_) fun _ h => ?_)))))))))))
    ·
     refine .sn mx (.mv rfl (.asn rfl (.nil (.ret (.blkRet (.thenRet (.thenRet (.blkRet (.thenRet ?_)))))))))
     replace h := resd_ab hK4 (some_eq h)
     replace h := hD2 _ (some_eq h)
     replace h := resb_ab hK1 (some_eq h)
     obtain rfl := some_eq h
     exact Ends.rt Tryz.results51 rfl
    ·
     exact .skip (.blkNormal (Ends.j _ (some_eq h)))
   ·
    have h := resd_nx hK4 hj4
    exact .rn mx (.adi rfl (.mv rfl (.nil (Ends.ag (some_eq h)))))
  ·
   refine .exit (.thenExit (.thenExit (.blkExit ?_)))
   replace h := hD2 _ (some_eq h)
   exact Ends.j _ (some_eq h)
 ·
  have h := resb_nx hK1 hj1
  refine .sn mx (.mv rfl (.asn rfl (.nil (.ret ?_))))
  obtain rfl := some_eq h
  exact Ends.rt Tryz.results51 rfl

theorem edit_order_ok {a1 : DOp} {b1 : DOp} {r : Int}  (h : edit_order a1 b1 = some r) : FSpec Tryz.prog 30 [rep a1, rep b1] (rep r) := by
 unfold edit_order at h
 obtain ⟨r1, hv1, h⟩ := bind_some h
 obtain ⟨r2, hv2, h⟩ := bind_some h
 obtain ⟨r3, hv3, h⟩ := bind_some h
 refine FSpec.i Tryz.func30 rfl Tryz.ntmps30 rfl (fun F => (.sn mx (.c (.box .none (.s rfl)) (.c (.box .none (.s rfl)) (.asi (.nil (.sn mx (.fa fd42_0 hfd42_0 rfl (.fa fd40_1 hfd40_1 rfl (.ld ty9 rfl (.fa fd42_0 hfd42_0 rfl (.fa fd40_1 hfd40_1 rfl (.ld ty9 rfl (.c (.call .none (strings_Compare_ok hv1) (.cons (.s rfl) (.cons (.s rfl) .nil))) (.fa fd42_0 hfd42_0 rfl (.fa fd40_2 hfd40_2 rfl (.ld ty3 rfl (.fa fd42_0 hfd42_0 rfl (.fa fd40_2 hfd40_2 rfl (.ld ty3 rfl (.c (.call .none (cmp_Compare_int_ok hv2) (.cons (.s rfl) (.cons (.s rfl) .nil))) (.c (.buildSlice (xs := [_, _]) .none sl105 ty3 hz3 (.cons (.s rfl) (.cons (.s rfl) .nil)) rfl (by decide)) (.c (.call .none (cmp_Or_int_ok hv3) (.cons (.s rfl) .nil)) (.asn rfl (.nil (.ret ?_))))))))))))))))))))))))))
 obtain rfl := some_eq h
 exact Ends.rt Tryz.results30 rfl

theorem shape_CheckText_ok {s1 : Str} {r : Int}  (h : shape_CheckText s1 = some r) : FSpec Tryz.prog 56 [rep s1] (rep r) := by
 unfold shape_CheckText at h
 refine FSpec.i Tryz.func56 rfl Tryz.ntmps56 rfl (fun F => (.sn mx (.asi (.nil (.seq (.sn mx (.mv rfl (.c (.lenStr .none Tryz.underlying9 (.s rfl)) (.c (.gt .none (.s rfl) .i) (.nil (.cb rfl h (fun _ h => ?_) fun _ h => ?_)))))))))))
 ·
  refine .sn mx (.asi (.nil (.ret (.thenRet ?_))))
  obtain rfl := some_eq h
  exact Ends.rt Tryz.results56 rfl
 ·
  obtain ⟨r1, hv2, h⟩ := bind_some h
  refine .skip (.then (.seq (.sn mx (.mv rfl (.c (.call .none (utf8_ValidString_ok hv2) (.cons (.s rfl) .nil)) (.c (.not .none (.s rfl)) (.nil (.cb rfl h (fun _ h => ?_) fun _ h => ?_))))))))
  ·
   refine .sn mx (.asi (.nil (.ret (.thenRet ?_))))
   obtain rfl := some_eq h
   exact Ends.rt Tryz.results56 rfl
  ·
   refine .skip (.then (.seq (.sn mx (.mv rfl (.c (.lenStr .none Tryz.underlying9 (.s rfl)) (.mvi (.nil ?_)))))))
   obtain ⟨o_4, h, hK4⟩ := bindR_some h
   refine .tJ (fun s => o_4 = Res.nx s) Sub.nil SubB.nil ?_ (fun j_4 hj4 => ?_)
   ·
    refine .block (.rforEL h (fun p5_ => [(12, ⟨True, rep p5_.1⟩)]) (fun p5_ => []) (.k 12 rfl .nil) SubB.nil (.k2 0 11 rfl rfl .nil) SubB.nil (fun p5_ o_5 h hD5 => (.sn mx (.lt rfl rfl (.nil (.seq (.cb rfl h (fun _ h => ?_) fun _ h => ?_)))))))
    ·
     refine .skip (.then (.seq ?_))
     obtain ⟨o_7, h, hK7⟩ := bindD_some h
     unfold shape_CheckText_L1 at h
     refine .tJ (fun s => o_7 = Res.nx s) (.k2 0 11 rfl rfl (.k 12 rfl .nil)) SubB.nil ?_ (fun j_7 hj7 => ?_)
     ·
      obtain ⟨hn8, h⟩ := need_some h
      obtain ⟨hn9, h⟩ := need_some h
      obtain ⟨hn10, h⟩ := need_some h
      refine .block (.sn mx (.mv rfl (.asn rfl (.nil (.sn mx (.mv rfl (.mv rfl (.c (.indexStr .none Tryz.underlying9 (.s rfl) (.s rfl) (fun _ => hn8)) (.c (.klss .none (.s rfl) .ki) (.mv rfl (.mg rfl rfl rfl (.mg rfl rfl rfl (.c (.indexStr (.at rfl rfl) Tryz.underlying9 (.tmp rfl id) (.tmp rfl id) (fun hg => hn9 hg.2)) (.c (.kneq (.at rfl rfl) (.tmp rfl id) .ki) (.pa rfl rfl (.mv rfl (.mg rfl rfl rfl (.mg rfl rfl rfl (.c (.indexStr (.at rfl rfl) Tryz.underlying9 (.tmp rfl id) (.tmp rfl id) (fun hg => hn10 hg.2)) (.c (.keql (.at rfl rfl) (.tmp rfl id) .ki) (.po rfl rfl (.nil (.cb rfl h (fun _ h => ?_) fun _ h => ?_)))))))))))))))))))))))
      ·
       refine .sn mx (.asi (.nil (.ret (.blkRet (.thenRet (.thenRet (.blkRet (.thenRet ?_))))))))
       replace h := resd_ab hK7 (some_eq h)
       replace h := hD5 _ (some_eq h)
       replace h := resb_ab hK4 (some_eq h)
       obtain rfl := some_eq h
       exact Ends.rt Tryz.results56 rfl
      ·
       exact .skip (.blkNormal (Ends.j _ (some_eq h)))
     ·
      have h := resd_nx hK7 hj7
      exact .rn mx (.adi rfl (.mv rfl (.nil (Ends.ag (some_eq h)))))
    ·
     refine .exit (.thenExit (.thenExit (.blkExit ?_)))
     replace h := hD5 _ (some_eq h)
     exact Ends.j _ (some_eq h)
   ·
    have h := resb_nx hK4 hj4
    refine .sn mx (.asi (.nil (.ret ?_)))
    obtain rfl := some_eq h
    exact Ends.rt Tryz.results56 rfl

theorem edit_checkBody_ok {x1 : DOp} {r : Int}  (h : edit_checkBody x1 = some r) : FSpec Tryz.prog 31 [rep x1] (rep r) := by
 unfold edit_checkBody at h
 refine FSpec.i Tryz.func31 rfl Tryz.ntmps31 rfl (fun F => (.sn mx (.c (.box .none (.s rfl)) (.asi (.nil (.seq (.sn mx (.fa fd42_1 hfd42_1 rfl (.ld ty3 rfl (.c (.lt .none (.s rfl) .i) (.mv rfl (.fg fd42_1 hfd42_1 rfl rfl rfl (.lg ty3 rfl rfl rfl (.c (.gt (.at rfl rfl) (.tmp rfl id) .i) (.po rfl rfl (.nil (.cb rfl h (fun _ h => ?_) fun _ h => ?_)))))))))))))))))
 ·
  refine .sn mx (.asi (.nil (.ret (.thenRet ?_))))
  obtain rfl := some_eq h
  exact Ends.rt Tryz.results31 rfl
 ·
  obtain ⟨set1, hv2, h⟩ := bnd_some h
  obtain ⟨undo1, hv3, h⟩ := bnd_some h
  obtain ⟨v1, hv4, h⟩ := bnd_some h
  refine .skip (.then (.sn mx (.fa fd42_1 hfd42_1 rfl (.ld ty3 rfl (.eqi rfl (.fa fd42_1 hfd42_1 rfl (.ld ty3 rfl (.eqi rfl (.ra hv2 rfl (.ra hv3 rfl (.nil (.seq (.block (.seq (.sn mx (.fa fd42_5 hfd42_5 rfl (.ld ty3 rfl (.nei rfl (.mv rfl (.mg rfl rfl rfl (.c (.not (.at rfl rfl) (.tmp rfl id)) (.pa rfl rfl (.ra hv4 rfl (.nil ?_))))))))))))))))))))))))
  obtain ⟨j_5, h, hK5⟩ := bind_some h
  refine .thenJ (ι := Bool) (fun j_5 => [(20, ⟨True, rep j_5⟩)]) (fun j_5 => []) (fun s => j_5 = s) (.k2 1 3 rfl rfl (.k 4 rfl .nil)) SubB.nil ?_ (fun j_5' hj5 => ?_)
  ·
   refine .cb rfl h (fun _ h => ?_) fun _ h => ?_
   ·
    exact .skip (Ends.j _ (some_eq h))
   ·
    obtain ⟨v2, hv7, h⟩ := bnd_some h
    refine .sn mx (.fa fd42_2 hfd42_2 rfl (.ld ty9 rfl (.c (.neS .none (eqAt_str Tryz.underlying9) (.s rfl) (.str (l := []) (by decide))) (.mv rfl (.mg rfl rfl rfl (.pa rfl rfl (.ra hv7 rfl (.nil (.cb rfl h (fun _ h => ?_) fun _ h => ?_)))))))))
    ·
     exact .skip (Ends.j _ (some_eq h))
    ·
     obtain ⟨v3, hv9, h⟩ := bnd_some h
     exact .rn mx (.fa fd42_3 hfd42_3 rfl (.ld ty9 rfl (.c (.neS .none (eqAt_str Tryz.underlying9) (.s rfl) (.str (l := []) (by decide))) (.mv rfl (.fg fd42_4 hfd42_4 rfl rfl rfl (.lg ty9 rfl rfl rfl (.c (.neS (.at rfl rfl) (eqAt_str Tryz.underlying9) (.tmp rfl id) (.str (l := []) (by decide))) (.po rfl rfl (.mv rfl (.mg rfl rfl rfl (.c (.not (.at rfl rfl) (.tmp rfl id)) (.pa rfl rfl (.ra hv9 rfl (.nil (Ends.j _ (some_eq h))))))))))))))))
  ·
   subst hj5; have h := hK5; clear hK5
   refine .cb rfl h (fun _ h => ?_) fun _ h => ?_
   ·
    refine .sn mx (.asi (.nil (.ret (.blkRet (.thenRet ?_)))))
    obtain rfl := some_eq h
    exact Ends.rt Tryz.results31 rfl
   ·
    obtain ⟨r1, hv11, h⟩ := bind_some h
    refine .seq (.sn mx (.mv rfl (.c (.not .none (.s rfl)) (.mv rfl (.fg fd42_2 hfd42_2 rfl rfl rfl (.lg ty9 rfl rfl rfl (.c (.callIf (.at rfl rfl) fnok29 (fun hg => edit_isName_ok ((fun hg => gd_some hv11 (hg.2)) hg)) (.cons (.tmp rfl id) .nil) (fun h => h)) ?_)))))))
    obtain ⟨v4, hv12, h⟩ := bnd_some h
    refine .c (.not (.at rfl rfl) (.tmp rfl id)) (.pa rfl rfl (.ra hv12 rfl (.nil ?_)))
    obtain ⟨j_13, h, hK13⟩ := bind_some h
    refine .thenJ (ι := Bool) (fun j_13 => [(46, ⟨True, rep j_13⟩)]) (fun j_13 => []) (fun s => j_13 = s) (.k2 1 3 rfl rfl (.k 4 rfl .nil)) SubB.nil ?_ (fun j_13' hj13 => ?_)
    ·
     refine .cb rfl h (fun _ h => ?_) fun _ h => ?_
     ·
      exact .skip (Ends.j _ (some_eq h))
     ·
      obtain ⟨r2, hv15, h⟩ := bind_some h
      refine .rn mx (.mv rfl (.mv rfl (.fg fd42_3 hfd42_3 rfl rfl rfl (.lg ty9 rfl rfl rfl (.c (.callIf (.at rfl rfl) fnok29 (fun hg => edit_isName_ok ((fun hg => gd_some hv15 (hg.2)) hg)) (.cons (.tmp rfl id) .nil) (fun h => h)) ?_)))))
      obtain ⟨v5, hv16, h⟩ := bnd_some h
      exact .c (.not (.at rfl rfl) (.tmp rfl id)) (.pa rfl rfl (.ra hv16 rfl (.nil (Ends.j _ (some_eq h)))))
    ·
     subst hj13; have h := hK13; clear hK13
     refine .cb rfl h (fun _ h => ?_) fun _ h => ?_
     ·
      refine .sn mx (.asi (.nil (.ret (.blkRet (.thenRet ?_)))))
      obtain rfl := some_eq h
      exact Ends.rt Tryz.results31 rfl
     ·
      refine .skip (.blkNormal (.then (.seq (.sn mx (.mv rfl (.nil ?_))))))
      obtain ⟨o_18, h, hK18⟩ := bindR_some h
      refine .tJ (fun s => o_18 = Res.nx s) (.k2 1 4 rfl rfl .nil) SubB.nil ?_ (fun j_18 hj18 => ?_)
      ·
       refine .cb rfl h (fun _ h => ?_) fun _ h => ?_
       ·
        obtain ⟨e1, hv20, h⟩ := bind_some h
        refine .sn mx (.fa fd42_4 hfd42_4 rfl (.ld ty9 rfl (.c (.call .none (shape_CheckText_ok hv20) (.cons (.s rfl) .nil)) (.asn rfl (.nil (.sn mx (.mv rfl (.nei rfl (.nil (.cb rfl h (fun _ h => ?_) fun _ h => ?_))))))))))
        ·
         refine .sn mx (.mv rfl (.asn rfl (.nil (.ret (.thenRet ?_)))))
         replace h := resb_ab hK18 (some_eq h)
         obtain rfl := some_eq h
         exact Ends.rt Tryz.results31 rfl
        ·
         exact .skip (Ends.j _ (some_eq h))
       ·
        exact .skip (Ends.j _ (some_eq h))
      ·
       have h := resb_nx hK18 hj18
       refine .seq (.sn mx (.mv rfl (.mv rfl (.fg fd42_5 hfd42_5 rfl rfl rfl (.lg ty3 rfl rfl rfl (.c (.lt (.at rfl rfl) (.tmp rfl id) .i) (.c (.move (.at rfl rfl) (.tmp rfl id)) (.fg fd42_5 hfd42_5 rfl rfl rfl (.lg ty3 rfl rfl rfl (.fg fd42_0 hfd42_0 rfl rfl rfl (.c (.fieldAddr (.at rfl rfl) fd40_2 hfd40_2 (.tmp rfl id)) (.lg ty3 rfl rfl rfl (.c (.subW (.at rfl rfl) (.tmp rfl id) .i) (.c (.gt (.at rfl rfl) (.tmp rfl id) (.tmp rfl id)) (.c (.pickOr (.at rfl rfl) (.tmp rfl id) (.tmp rfl id)) (.pa rfl rfl (.nil (.cb rfl h (fun _ h => ?_) fun _ h => ?_))))))))))))))))))
       ·
        refine .sn mx (.asi (.nil (.ret (.thenRet ?_))))
        obtain rfl := some_eq h
        exact Ends.rt Tryz.results31 rfl
       ·
        refine .skip (.then (.sn mx (.asi (.nil (.ret ?_)))))
        obtain rfl := some_eq h
        exact Ends.rt Tryz.results31 rfl

theorem edit_Check_ok {l1 : (List DOp)} {r : Int}  (h : edit_Check l1 = some r) : FSpec Tryz.prog 6 [rep l1] (rep r) := by
 unfold edit_Check at h
 refine FSpec.i Tryz.func6 rfl Tryz.ntmps6 rfl (fun F => (.sn mx (.asi (.nil (.seq (.sn mx (.mv rfl (.ln sl22 rfl (.c (.gt .none (.s rfl) .i) (.nil (.cb rfl h (fun _ h => ?_) fun _ h => ?_)))))))))))
 ·
  refine .sn mx (.asi (.nil (.ret (.thenRet ?_))))
  obtain rfl := some_eq h
  exact Ends.rt Tryz.results6 rfl
 ·
  refine .skip (.then (.seq (.sn mx (.mv rfl (.ln sl22 rfl (.mvi (.nil ?_)))))))
  obtain ⟨o_2, h, hK2⟩ := bindR_some h
  refine .tJ (fun s => o_2 = Res.nx s) Sub.nil SubB.nil ?_ (fun j_2 hj2 => ?_)
  ·
   refine .block (.rforEL h (fun p3_ => [(12, ⟨True, rep p3_.1⟩)]) (fun p3_ => []) (.k 12 rfl .nil) SubB.nil (.k2 0 10 rfl rfl (.k 11 rfl .nil)) SubB.nil (fun p3_ o_3 h hD3 => (.sn mx (.lt rfl rfl (.nil (.seq (.cb rfl h (fun _ h => ?_) fun _ h => ?_)))))))
   ·
    refine .skip (.then (.seq ?_))
    obtain ⟨o_5, h, hK5⟩ := bindD_some h
    unfold edit_Check_L1 at h
    refine .tJ (fun s => o_5 = Res.nx s) (.k4 0 10 11 12 rfl rfl rfl rfl .nil) SubB.nil ?_ (fun j_5 hj5 => ?_)
    ·
     obtain ⟨hn6, h⟩ := need_some h
     obtain ⟨v1, hv7, h⟩ := bnd_some h
     obtain ⟨v2, hv8, h⟩ := bnd_some h
     obtain ⟨hn9, h⟩ := need_some h
     refine .block (.sr [oo, oo, oo, ([], [4]), oo, ([4], [4])] mx (.mvA rfl (.ixA sl22 ty42 rfl rfl hn6 (.rlA hv7 ty42 rfl (.al zo42 rfl (.asnA rfl (.st ty42 rfl rfl rfl (.nil (.freeze (t := 4) rfl rfl SubB.nil rfl (.sr [oo, ([], [5]), ([5], [5])] mx (.cA (.re hv8 (.buildF (y := (⟨(⟨(0 : Int), Str.nil, (0 : Int)⟩ : Stamp), (0 : Int), Str.nil, Str.nil, Str.nil, (0 : Int)⟩ : DOp)) .none bu42 zc42 rfl .nil .nil)) (.al zo42 rfl (.st ty42 rfl rfl rfl (.nil (.nameBox (t := 5) (g := 5001) rfl rfl (fun m5001 => (.seq (.sn mx (.mv rfl (.c (.gt .none (.s rfl) .i) (.mv rfl (.mg rfl rfl rfl (.mg rfl rfl rfl (.c (.subW (.at rfl rfl) (.tmp rfl id) .i) (.c (.indexAddr (.at rfl rfl) sl22 ty42 (.tmp rfl id) (.tmp rfl id) (fun hg => hn9 hg.2)) (.c (.fieldAddr (.at rfl rfl) fd42_0 hfd42_0 (.tmp rfl id)) (.c (.fieldAddr (.at rfl rfl) fd40_1 hfd40_1 (.tmp rfl id)) (.lg ty9 rfl rfl rfl (.fg fd42_0 hfd42_0 rfl rfl rfl (.c (.fieldAddr (.at rfl rfl) fd40_1 hfd40_1 (.tmp rfl id)) (.lg ty9 rfl rfl rfl (.c (.eqS (.at rfl rfl) (eqAt_str Tryz.underlying9) (.tmp rfl id) (.tmp rfl id)) (.pa rfl rfl (.nil ?_))))))))))))))))))))))))))))))))))
     obtain ⟨j_10, h, hK10⟩ := bind_some h
     refine .thenJ (ι := DOp) (fun j_10 => []) (fun j_10 => [(5001, some (boxAt m5001 42 j_10))]) (fun s => j_10 = s) (.k4 0 3 4 5 rfl rfl rfl rfl (.k2 10 11 rfl rfl (.k 12 rfl .nil))) SubB.nil ?_ (fun j_10' hj10 => ?_)
     ·
      refine .cb rfl h (fun _ h => ?_) fun _ h => ?_
      ·
       obtain ⟨hn12, h⟩ := need_some h
       obtain ⟨v3, hv13, h⟩ := bnd_some h
       exact .rg [oo, oo, oo, oo, oo, ([5001], [5001])] mx (.mvA rfl (.mvA rfl (.cA (.subW .none (.s rfl) .i) (.ixA sl22 ty42 rfl rfl hn12 (.rlA hv13 ty42 rfl (.s0 5001 ty42 rfl rfl rfl (.nil (Ends.j _ (some_eq h)))))))))
      ·
       exact .skip (Ends.j _ (some_eq h))
     ·
      subst hj10; have h := hK10; clear hK10
      obtain ⟨r1, hv14, h⟩ := bind_some h
      refine .fb 5001 [5] rfl (.cons (t := 5) rfl trivial .nil) (.seq (.block (.sn mx (.fa fd42_0 hfd42_0 rfl (.fa fd40_1 hfd40_1 rfl (.ld ty9 rfl (.c (.call .none (edit_isName_ok hv14) (.cons (.s rfl) .nil)) (.c (.not .none (.s rfl)) (.asn rfl (.nil (.cb rfl h (fun _ h => ?_) fun _ h => ?_)))))))))))
      ·
       refine .sn mx (.asi (.nil (.ret (.blkRet (.thenRet (.blkRet (.thenRet (.thenRet (.blkRet (.thenRet ?_))))))))))
       replace h := resd_ab hK5 (some_eq h)
       replace h := hD3 _ (some_eq h)
       replace h := resb_ab hK2 (some_eq h)
       obtain rfl := some_eq h
       exact Ends.rt Tryz.results6 rfl
      ·
       obtain ⟨hn16, h⟩ := need_some h
       obtain ⟨r2, hv17, h⟩ := bind_some h
       refine .sn mx (.mv rfl (.c (.gt .none (.s rfl) .i) (.mv rfl (.mg rfl rfl rfl (.mg rfl rfl rfl (.c (.subW (.at rfl rfl) (.tmp rfl id) .i) (.c (.indexAddr (.at rfl rfl) sl22 ty42 (.tmp rfl id) (.tmp rfl id) (fun hg => hn16 hg.2)) (.lg ty42 rfl rfl rfl (.c (.load (.at rfl rfl) ty42 (.s rfl)) (.c (.callIf (.at rfl rfl) fnok30 (fun hg => edit_order_ok ((fun hg => gd_some hv17 (hg.2)) hg)) (.cons (.tmp rfl id) (.cons (.tmp rfl id) .nil)) (fun h => h)) (.c (.ge (.at rfl rfl) (.tmp rfl id) .i) (.pa rfl rfl (.asn rfl (.nil (.cb rfl h (fun _ h => ?_) fun _ h => ?_)))))))))))))))
       ·
        refine .sn mx (.asi (.nil (.ret (.blkRet (.thenRet (.blkRet (.thenRet (.thenRet (.blkRet (.thenRet ?_))))))))))
        replace h := resd_ab hK5 (some_eq h)
        replace h := hD3 _ (some_eq h)
        replace h := resb_ab hK2 (some_eq h)
        obtain rfl := some_eq h
        exact Ends.rt Tryz.results6 rfl
       ·
        obtain ⟨v4, hv19, h⟩ := bnd_some h
        refine .seq (.sn mx (.fa fd42_0 hfd42_0 rfl (.fa fd40_2 hfd40_2 rfl (.ld ty3 rfl (.fa fd42_0 hfd42_0 rfl (.fa fd40_2 hfd40_2 rfl (.ld ty3 rfl (.adi rfl (.c (.neI .none (.s rfl) (.s rfl)) (.ra hv19 rfl (.nil ?_)))))))))))
        obtain ⟨j_20, h, hK20⟩ := bind_some h
        refine .thenJ (ι := Bool) (fun j_20 => [(57, ⟨True, rep j_20⟩)]) (fun j_20 => []) (fun s => j_20 = s) (.k4 0 4 5 10 rfl rfl rfl rfl (.k2 11 12 rfl rfl .nil)) SubB.nil ?_ (fun j_20' hj20 => ?_)
        ·
         refine .cb rfl h (fun _ h => ?_) fun _ h => ?_
         ·
          exact .skip (Ends.j _ (some_eq h))
         ·
          obtain ⟨v5, hv22, h⟩ := bnd_some h
          exact .rn mx (.fa fd42_0 hfd42_0 rfl (.fa fd40_0 hfd40_0 rfl (.ld ty3 rfl (.c (.lt .none (.s rfl) .i) (.mv rfl (.fg fd42_0 hfd42_0 rfl rfl rfl (.c (.fieldAddr (.at rfl rfl) fd40_0 hfd40_0 (.tmp rfl id)) (.lg ty3 rfl rfl rfl (.c (.gt (.at rfl rfl) (.tmp rfl id) .i) (.po rfl rfl (.ra hv22 rfl (.nil (Ends.j _ (some_eq h))))))))))))))
        ·
         subst hj20; have h := hK20; clear hK20
         refine .cb rfl h (fun _ h => ?_) fun _ h => ?_
         ·
          refine .sn mx (.asi (.nil (.ret (.blkRet (.thenRet (.blkRet (.thenRet (.thenRet (.blkRet (.thenRet ?_))))))))))
          replace h := resd_ab hK5 (some_eq h)
          replace h := hD3 _ (some_eq h)
          replace h := resb_ab hK2 (some_eq h)
          obtain rfl := some_eq h
          exact Ends.rt Tryz.results6 rfl
         ·
          refine .sn mx (.fa fd42_0 hfd42_0 rfl (.fa fd40_0 hfd40_0 rfl (.ld ty3 rfl (.fa fd42_0 hfd42_0 rfl (.fa fd40_0 hfd40_0 rfl (.ld ty3 rfl (.c (.le .none (.s rfl) (.s rfl)) (.asn rfl (.nil (.cb rfl h (fun _ h => ?_) fun _ h => ?_))))))))))
          ·
           refine .sn mx (.asi (.nil (.ret (.blkRet (.thenRet (.blkRet (.thenRet (.thenRet (.blkRet (.thenRet ?_))))))))))
           replace h := resd_ab hK5 (some_eq h)
           replace h := hD3 _ (some_eq h)
           replace h := resb_ab hK2 (some_eq h)
           obtain rfl := some_eq h
           exact Ends.rt Tryz.results6 rfl
          ·
           obtain ⟨e1, hv25, h⟩ := bind_some h
           refine .skip (.blkNormal (.then (.sn mx (.ld ty42 rfl (.c (.call .none (edit_checkBody_ok hv25) (.cons (.s rfl) .nil)) (.asn rfl (.nil (.sn mx (.mv rfl (.nei rfl (.nil (.cb rfl h (fun _ h => ?_) fun _ h => ?_))))))))))))
           ·
            refine .sn mx (.mv rfl (.asn rfl (.nil (.ret (.blkRet (.thenRet (.thenRet (.blkRet (.thenRet ?_)))))))))
            replace h := resd_ab hK5 (some_eq h)
            replace h := hD3 _ (some_eq h)
            replace h := resb_ab hK2 (some_eq h)
            obtain rfl := some_eq h
            exact Ends.rt Tryz.results6 rfl
           ·
            exact .skip (.blkNormal (Ends.j _ (some_eq h)))
    ·
     have h := resd_nx hK5 hj5
     exact .rn mx (.adi rfl (.mv rfl (.nil (Ends.ag (some_eq h)))))
   ·
    refine .exit (.thenExit (.thenExit (.blkExit ?_)))
    replace h := hD3 _ (some_eq h)
    exact Ends.j _ (some_eq h)
  ·
   have h := resb_nx hK2 hj2
   refine .sn mx (.asi (.nil (.ret ?_)))
   obtain rfl := some_eq h
   exact Ends.rt Tryz.results6 rfl

theorem slices_Concat_Op_ok {slices1 : (List (List DOp))} {r : (List DOp)}  (h : slices_Concat_Op slices1 = some r) : FSpecO Tryz.prog 42 [rep slices1] [] (anyV) [some (rowV 42 r)] := by
 unfold slices_Concat_Op at h
 refine FSpecO.i Tryz.func42 rfl Tryz.ntmps42 rfl (fun F => (.sn mx (.c (.assign .none (.const (x := ([] : (List DOp))) (fun M w => ⟨_, ⟨none, 0, rfl, Nat.le_refl _, by decide, rfl⟩, rfl⟩))) (.nil (.sn mx (.asi (.nil (.seq (.sn mx (.mv rfl (.ln sl99 rfl (.mvi (.nil ?_)))))))))))))
 obtain ⟨j_1, h, hK1⟩ := bind_some h
 refine .thenJ (ι := Int) (fun j_1 => [(3, ⟨True, rep j_1⟩)]) (fun j_1 => []) (fun s => j_1 = s) (.k 0 rfl .nil) SubB.nil ?_ (fun j_1' hj1 => ?_)
 ·
  refine .block (.rforL h (fun p2_ => [(11, ⟨True, rep p2_.1⟩), (3, ⟨True, rep p2_.2⟩)]) (fun p2_ => []) (.k2 11 3 rfl rfl .nil) SubB.nil (.k2 0 9 rfl rfl (.k 10 rfl .nil)) SubB.nil (fun p2_ o_2 h hD2 => (.sn mx (.lt rfl rfl (.nil (.seq (.cb rfl h (fun _ h => ?_) fun _ h => ?_)))))))
  ·
   refine .skip (.then (.seq ?_))
   obtain ⟨j_4, h, hK4⟩ := bind_some h
   unfold slices_Concat_Op_L1 at h
   refine .thenJ (ι := Int) (fun j_4 => [(3, ⟨True, rep j_4⟩)]) (fun j_4 => []) (fun s => j_4 = s) (.k4 0 9 10 11 rfl rfl rfl rfl .nil) SubB.nil ?_ (fun j_4' hj4 => ?_)
   ·
    obtain ⟨hn5, h⟩ := need_some h
    obtain ⟨size1, hv6, h⟩ := bnd_some h
    refine .block (.sn mx (.ix sl99 ty22 rfl rfl hn5 (.ld ty22 rfl (.asn rfl (.nil (.sn mx (.mv rfl (.mv rfl (.ln sl22 rfl (.add rfl rfl (.ra hv6 rfl (.nil (.sn mx (.mv rfl (.c (.lt .none (.s rfl) .i) (.nil (.cb rfl h (fun _ h => ?_) fun _ h => ?_)))))))))))))))))
    ·
     cases h
    ·
     exact .skip (.blkNormal (Ends.j _ (some_eq h)))
   ·
    subst hj4; have h := hK4; clear hK4
    exact .rn mx (.adi rfl (.mv rfl (.nil (Ends.ag (some_eq h)))))
  ·
   refine .exit (.thenExit (.thenExit (.blkExit ?_)))
   replace h := hD2 _ (some_eq h)
   exact Ends.j _ (some_eq h)
 ·
  subst hj1; have h := hK1; clear hK1
  obtain ⟨newslice1, hv8, h⟩ := bind_some h
  refine .sr [oo, ([], [24]), ([24], [6, 24])] mx (.mvA rfl (.cW (.cO [] (slices_Grow_Op_ok hv8) (.cons (.const (fun _ _ => rep_raw.2 ⟨rfl, rfl, rfl⟩)) (.cons (.s rfl) .nil)) .nil rfl) (.cW (.passRow rfl (.tmp rfl)) (.nil (.nameRow (t := 6) (g := 5001) rfl rfl rfl (fun s5001 => (.seq (.sn mx (.mv rfl (.ln sl99 rfl (.mvi (.nil ?_))))))))))))
  obtain ⟨j_9, h, hK9⟩ := bind_some h
  refine .thenJ (ι := (List DOp)) (fun j_9 => []) (fun j_9 => [(6, some (rowV 42 j_9))]) (fun s => j_9 = s) Sub.nil SubB.nil ?_ (fun j_9' hj9 => ?_)
  ·
   refine .block (.anon (t := 6) (g := 5001) rfl rfl trivial rfl (.rforL h (fun p10_ => [(27, ⟨True, rep p10_.1⟩)]) (fun p10_ => [(6, some (rowV 42 p10_.2))]) (.k 27 rfl .nil) (.k 6 rfl .nil) (.k2 25 26 rfl rfl .nil) SubB.nil (fun p10_ o_10 h hD10 => (.nameRow (t := 6) (g := 5002) rfl rfl rfl (fun s5002 => (.sn mx (.lt rfl rfl (.nil (.seq (.cb rfl h (fun _ h => ?_) fun _ h => ?_))))))))))
   ·
    refine .skip (.then (.seq ?_))
    obtain ⟨j_12, h, hK12⟩ := bind_some h
    unfold slices_Concat_Op_L2 at h
    refine .thenJ (ι := (List DOp)) (fun j_12 => []) (fun j_12 => [(6, some (rowV 42 j_12))]) (fun s => j_12 = s) (.k2 25 26 rfl rfl (.k 27 rfl .nil)) SubB.nil ?_ (fun j_12' hj12 => ?_)
    ·
     obtain ⟨hn13, h⟩ := need_some h
     obtain ⟨hn14, h⟩ := need_some h
     exact .block (.sn mx (.ix sl99 ty22 rfl rfl hn13 (.ld ty22 rfl (.asn rfl (.nil (.rg [oo, oo, ([5002], [33, 5002]), ([33], [6, 33])] mx (.mvA rfl (.mvA rfl (.cW (.append (k := 5002) rk22 rfl (.told (.s rfl) rfl) (.s rfl) hn14) (.consWD (.passRow rfl (.tmp rfl)) rfl rfl (.nil (.blkNormal (Ends.j _ (some_eq h))))))))))))))
    ·
     subst hj12; have h := hK12; clear hK12
     exact .nameRow (t := 6) (g := 5003) rfl rfl rfl (fun s5003 => (.rn mx (.adi rfl (.mv rfl (.nil (.anon (t := 6) (g := 5003) rfl rfl trivial rfl (Ends.ag (some_eq h))))))))
   ·
    refine .exit (.thenExit (.thenExit (.blkExit (.anon (t := 6) (g := 5002) rfl rfl trivial rfl ?_))))
    replace h := hD10 _ (some_eq h)
    exact Ends.j _ (some_eq h)
  ·
   subst hj9; have h := hK9; clear hK9
   refine .nameRow (t := 6) (g := 5004) rfl rfl rfl (fun s5004 => (.sn mx (.mv rfl (.asn rfl (.nil (.ret (.anon (t := 2) (g := 5004) rfl rfl trivial rfl ?_)))))))
   obtain rfl := some_eq h
   exact Ends.ret1O (.inl rfl) [2] Tryz.results42 (by decide) (.res rfl rfl) (ResOK.tmp rfl trivial (fun _ _ _ _ => trivial))

theorem slices_insertionSortCmpFunc_Op_ok {data1 : (List DOp)} {a1 : Int} {b1 : Int} {cmp1 : (DOp → DOp → Option Int)} {r : (List DOp)} {s53 : Value} (h : slices_insertionSortCmpFunc_Op data1 a1 b1 cmp1 = some r) : FSpecO Tryz.prog 82 [isV s53, rep a1, rep b1, fn2 Tryz.prog (rep (α := Int)) cmp1] [(s53, rowV 42 data1)] (anyV) [some (rowV 42 r)] := by
 unfold slices_insertionSortCmpFunc_Op at h
 obtain ⟨i1, hv1, h⟩ := bnd_some h
 refine FSpecO.i Tryz.func82 rfl Tryz.ntmps82 rfl (fun F => (.sn mx (.mv rfl (.adi rfl (.ra hv1 rfl (.nil (.block (.loopL h (fun s2_ => [(8, ⟨True, rep s2_.1⟩)]) (fun s2_ => [(53, some (CPred.at s53 (rowV 42 s2_.2)))]) (.k 8 rfl .nil) (.k 53 rfl .nil) (.k4 0 1 2 3 rfl rfl rfl rfl .nil) SubB.nil (fun s2_ o_2 h hD2 => ?_)))))))))
 unfold slices_insertionSortCmpFunc_Op_L1 at h
 refine .seq (.sn mx (.mv rfl (.mv rfl (.lt rfl rfl (.nil (.cb rfl h (fun _ h => ?_) fun _ h => ?_))))))
 ·
  refine .skip (.then (.seq ?_))
  obtain ⟨j_4, h, hK4⟩ := bind_some h
  refine .thenJ (ι := (List DOp)) (fun j_4 => []) (fun j_4 => [(53, some (CPred.at s53 (rowV 42 j_4)))]) (fun s => j_4 = s) (.k4 0 1 2 3 rfl rfl rfl rfl (.k 8 rfl .nil)) SubB.nil ?_ (fun j_4' hj4 => ?_)
  ·
   refine .block (.sn mx (.mv rfl (.asn rfl (.nil (.block (.loopL h (fun s5_ => [(9, ⟨True, rep s5_.1⟩)]) (fun s5_ => [(53, some (CPred.at s53 (rowV 42 s5_.2)))]) (.k 9 rfl .nil) (.k 53 rfl .nil) (.k4 0 1 2 3 rfl rfl rfl rfl (.k 8 rfl .nil)) SubB.nil (fun s5_ o_5 h hD5 => ?_)))))))
   unfold slices_insertionSortCmpFunc_Op_L2 at h
   obtain ⟨hn6, h⟩ := need_some h
   obtain ⟨hn7, h⟩ := need_some h
   obtain ⟨r1, hv8, h⟩ := bind_some h
   refine .seq (.sr [oo, oo, oo, oo, oo, oo, oo, ([53], []), ([53], []), oo, oo, oo, ([53], []), ([53], []), oo, oo, oo] mx (.mvA rfl (.mvA rfl (.cA (.gt .none (.s rfl) (.s rfl)) (.mvA rfl (.cA (.move (.at rfl rfl) (.s rfl)) (.cA (.move (.at rfl rfl) (.s rfl)) (.cA (.move (.at rfl rfl) (.s rfl)) (.cA (.indexAddrO (k := 53) (.at rfl rfl) sl22 ty42 (.tmp rfl id) rfl (.tmp rfl id) (fun hg => hn6 hg.2)) (.cA (.loadElem0 (k := 53) (.at rfl rfl) ty42 (.tmp rfl id) rfl (fun hg => hn6 hg.2)) (.cA (.move (.at rfl rfl) (.s rfl)) (.cA (.move (.at rfl rfl) (.s rfl)) (.cA (.subW (.at rfl rfl) (.tmp rfl id) .i) (.cA (.indexAddrO (k := 53) (.at rfl rfl) sl22 ty42 (.tmp rfl id) rfl (.tmp rfl id) (fun hg => hn7 hg.2)) (.cA (.loadElem0 (k := 53) (.at rfl rfl) ty42 (.tmp rfl id) rfl (fun hg => hn7 hg.2)) (.cA (.callV (gx s5_.2 s5_.1, gx s5_.2 (W (s5_.1 - 1)), r1) (.at rfl rfl) (.tmp rfl id) (fun hg => gd_some hv8 (hg.2)) (.cons (.tmp rfl id) (.cons (.tmp rfl id) .nil))) (.cA (.lt (.at rfl rfl) (.tmp rfl id) .i) (.cA (.pickAnd .none (.s rfl) (.tmp rfl id)) (.nil (.cb rfl h (fun _ h => ?_) fun _ h => ?_))))))))))))))))))))
   ·
    obtain ⟨hn10, h⟩ := need_some h
    obtain ⟨v1, hv11, h⟩ := bnd_some h
    obtain ⟨hn12, h⟩ := need_some h
    obtain ⟨v2, hv13, h⟩ := bnd_some h
    obtain ⟨hn14, h⟩ := need_some h
    obtain ⟨hn15, h⟩ := need_some h
    obtain ⟨data2, hv16, h⟩ := bnd_some h
    obtain ⟨j1, hv17, h⟩ := bnd_some h
    exact .skip (.then (.seq (.block (.rg [oo, oo, oo, oo, oo, oo, oo, oo, ([53], []), ([53], []), oo, oo, ([53], []), ([53], []), ([53], []), ([53], [53]), ([53], []), ([53], [53])] mx (.mvA rfl (.mvA rfl (.mvA rfl (.mvA rfl (.cA (.subW .none (.s rfl) .i) (.mvA rfl (.mvA rfl (.cA (.subW .none (.s rfl) .i) (.ixO 53 sl22 ty42 rfl rfl rfl hn10 (.cA (.re hv11 (.loadElem0 (k := 53) .none ty42 (.s rfl) rfl (fun _ => hn10))) (.mvA rfl (.mvA rfl (.ixO 53 sl22 ty42 rfl rfl rfl hn12 (.cA (.re hv13 (.loadElem0 (k := 53) .none ty42 (.s rfl) rfl (fun _ => hn12))) (.ixO 53 sl22 ty42 rfl rfl rfl hn14 (.cN (.storeElem0 (k := 53) ty42 (.s rfl) rfl (.s rfl) hn14) (.ixO 53 sl22 ty42 rfl rfl rfl hn15 (.cN (.storeElem0 (k := 53) ty42 (.s rfl) rfl (.s rfl) hn15) (.nil (.blkNormal (.then (.reB (t := 53) rfl (congrArg (fun y => CPred.at s53 (rowV 42 y)) hv16) (.rn mx (.mv rfl (.c (.subW .none (.s rfl) .i) (.ra hv17 rfl (.nil (Ends.ag (some_eq h)))))))))))))))))))))))))))))))))
   ·
    refine .exit (.thenExit (.thenExit (.blkExit (.blkNormal ?_))))
    replace h := hD5 _ (some_eq h)
    exact Ends.j _ (some_eq h)
  ·
   subst hj4; have h := hK4; clear hK4
   obtain ⟨i2, hv18, h⟩ := bnd_some h
   exact .rn mx (.mv rfl (.adi rfl (.ra hv18 rfl (.nil (Ends.ag (some_eq h))))))
 ·
  refine .exit (.thenExit (.thenExit (.blkExit ?_)))
  replace h := hD2 _ (some_eq h)
  obtain rfl := some_eq h
  exact Ends.ret0O (.inr rfl) [53] Tryz.results82 (by decide) (.held rfl .nil)

theorem slices_swapRangeCmpFunc_Op_ok {data1 : (List DOp)} {a1 : Int} {b1 : Int} {n1 : Int} {cmp1 : (DOp → DOp → Option Int)} {r : (List DOp)} {s38 : Value} (h : slices_swapRangeCmpFunc_Op data1 a1 b1 n1 cmp1 = some r) : FSpecO Tryz.prog 153 [isV s38, rep a1, rep b1, rep n1, fn2 Tryz.prog (rep (α := Int)) cmp1] [(s38, rowV 42 data1)] (anyV) [some (rowV 42 r)] := by
 unfold slices_swapRangeCmpFunc_Op at h
 refine FSpecO.i Tryz.func153 rfl Tryz.ntmps153 rfl (fun F => (.sn mx (.asi (.nil (.block (.loopL h (fun s1_ => [(10, ⟨True, rep s1_.1⟩)]) (fun s1_ => [(38, some (CPred.at s38 (rowV 42 s1_.2)))]) (.k 10 rfl .nil) (.k 38 rfl .nil) (.k4 0 1 2 3 rfl rfl rfl rfl .nil) SubB.nil (fun s1_ o_1 h hD1 => ?_)))))))
 unfold slices_swapRangeCmpFunc_Op_L1 at h
 refine .seq (.sn mx (.mv rfl (.mv rfl (.lt rfl rfl (.nil (.cb rfl h (fun _ h => ?_) fun _ h => ?_))))))
 ·
  obtain ⟨hn3, h⟩ := need_some h
  obtain ⟨v1, hv4, h⟩ := bnd_some h
  obtain ⟨hn5, h⟩ := need_some h
  obtain ⟨v2, hv6, h⟩ := bnd_some h
  obtain ⟨hn7, h⟩ := need_some h
  obtain ⟨hn8, h⟩ := need_some h
  obtain ⟨data2, hv9, h⟩ := bnd_some h
  obtain ⟨i1, hv10, h⟩ := bnd_some h
  exact .skip (.then (.seq (.block (.rg [oo, oo, oo, oo, oo, oo, oo, oo, oo, oo, oo, oo, ([38], []), ([38], []), oo, oo, oo, oo, ([38], []), ([38], []), ([38], []), ([38], [38]), ([38], []), ([38], [38])] mx (.mvA rfl (.mvA rfl (.mvA rfl (.addA rfl rfl (.mvA rfl (.mvA rfl (.mvA rfl (.addA rfl rfl (.mvA rfl (.mvA rfl (.mvA rfl (.addA rfl rfl (.ixO 38 sl22 ty42 rfl rfl rfl hn3 (.cA (.re hv4 (.loadElem0 (k := 38) .none ty42 (.s rfl) rfl (fun _ => hn3))) (.mvA rfl (.mvA rfl (.mvA rfl (.addA rfl rfl (.ixO 38 sl22 ty42 rfl rfl rfl hn5 (.cA (.re hv6 (.loadElem0 (k := 38) .none ty42 (.s rfl) rfl (fun _ => hn5))) (.ixO 38 sl22 ty42 rfl rfl rfl hn7 (.cN (.storeElem0 (k := 38) ty42 (.s rfl) rfl (.s rfl) hn7) (.ixO 38 sl22 ty42 rfl rfl rfl hn8 (.cN (.storeElem0 (k := 38) ty42 (.s rfl) rfl (.s rfl) hn8) (.nil (.blkNormal (.then (.reB (t := 38) rfl (congrArg (fun y => CPred.at s38 (rowV 42 y)) hv9) (.rn mx (.mv rfl (.adi rfl (.ra hv10 rfl (.nil (Ends.ag (some_eq h)))))))))))))))))))))))))))))))))))))))
 ·
  refine .exit (.thenExit (.thenExit (.blkExit ?_)))
  replace h := hD1 _ (some_eq h)
  obtain rfl := some_eq h
  exact Ends.ret0O (.inr rfl) [38] Tryz.results153 (by decide) (.held rfl .nil)

theorem slices_rotateCmpFunc_Op_ok {data1 : (List DOp)} {a1 : Int} {m1 : Int} {b1 : Int} {cmp1 : (DOp → DOp → Option Int)} {r : (List DOp)} {s58 : Value} (h : slices_rotateCmpFunc_Op data1 a1 m1 b1 cmp1 = some r) : FSpecO Tryz.prog 131 [isV s58, rep a1, rep m1, rep b1, fn2 Tryz.prog (rep (α := Int)) cmp1] [(s58, rowV 42 data1)] (anyV) [some (rowV 42 r)] := by
 unfold slices_rotateCmpFunc_Op at h
 obtain ⟨i1, hv1, h⟩ := bnd_some h
 obtain ⟨j1, hv2, h⟩ := bnd_some h
 refine FSpecO.i Tryz.func131 rfl Tryz.ntmps131 rfl (fun F => (.sn mx (.mv rfl (.mv rfl (.sub rfl rfl (.ra hv1 rfl (.nil (.sn mx (.mv rfl (.mv rfl (.sub rfl rfl (.ra hv2 rfl (.nil (.seq ?_))))))))))))))
 obtain ⟨j_3, h, hK3⟩ := bind_some h
 refine .thenJ (ι := (Int × (List DOp))) (fun j_3 => [(10, ⟨True, rep j_3.1⟩)]) (fun j_3 => [(58, some (CPred.at s58 (rowV 42 j_3.2)))]) (fun s => j_3 = s) (.k2 0 2 rfl rfl (.k 4 rfl .nil)) SubB.nil ?_ (fun j_3' hj3 => ?_)
 ·
  refine .block (.loopL h (fun s4_ => [(10, ⟨True, rep s4_.1⟩), (11, ⟨True, rep s4_.2.1⟩)]) (fun s4_ => [(58, some (CPred.at s58 (rowV 42 s4_.2.2)))]) (.k2 10 11 rfl rfl .nil) (.k 58 rfl .nil) (.k2 0 2 rfl rfl (.k 4 rfl .nil)) SubB.nil (fun s4_ o_4 h hD4 => ?_))
  unfold slices_rotateCmpFunc_Op_L1 at h
  refine .seq (.sn mx (.mv rfl (.mv rfl (.c (.neI .none (.s rfl) (.s rfl)) (.nil (.cb rfl h (fun _ h => ?_) fun _ h => ?_))))))
  ·
   refine .skip (.then (.block (.sn mx (.mv rfl (.mv rfl (.c (.gt .none (.s rfl) (.s rfl)) (.nil (.cb rfl h (fun _ h => ?_) fun _ h => ?_))))))))
   ·
    obtain ⟨r1, hv7, h⟩ := bind_some h
    obtain ⟨i2, hv8, h⟩ := bnd_some h
    exact .sr [oo, oo, oo, oo, oo, oo, oo, ([58], [58])] mx (.mvA rfl (.mvA rfl (.mvA rfl (.subA rfl rfl (.mvA rfl (.mvA rfl (.mvA rfl (.cW (.cO [58] (slices_swapRangeCmpFunc_Op_ok hv7) (.cons (.s rfl) (.cons (.s rfl) (.cons (.s rfl) (.cons (.s rfl) (.cons (.s rfl) .nil))))) (.cons (k := 58) rfl .nil) rfl) (.nil (.rn mx (.mv rfl (.mv rfl (.sub rfl rfl (.ra hv8 rfl (.nil (.blkNormal (Ends.ag (some_eq h))))))))))))))))))
   ·
    obtain ⟨r2, hv9, h⟩ := bind_some h
    obtain ⟨j2, hv10, h⟩ := bnd_some h
    exact .sr [oo, oo, oo, oo, oo, oo, oo, oo, oo, oo, oo, ([58], [58])] mx (.mvA rfl (.mvA rfl (.mvA rfl (.subA rfl rfl (.mvA rfl (.mvA rfl (.addA rfl rfl (.mvA rfl (.subA rfl rfl (.mvA rfl (.mvA rfl (.cW (.cO [58] (slices_swapRangeCmpFunc_Op_ok hv9) (.cons (.s rfl) (.cons (.s rfl) (.cons (.s rfl) (.cons (.s rfl) (.cons (.s rfl) .nil))))) (.cons (k := 58) rfl .nil) rfl) (.nil (.rn mx (.mv rfl (.mv rfl (.sub rfl rfl (.ra hv10 rfl (.nil (.blkNormal (Ends.ag (some_eq h))))))))))))))))))))))
  ·
   refine .exit (.thenExit (.thenExit (.blkExit ?_)))
   replace h := hD4 _ (some_eq h)
   exact Ends.j _ (some_eq h)
 ·
  subst hj3; have h := hK3; clear hK3
  obtain ⟨r3, hv11, h⟩ := bind_some h
  refine .rg [oo, oo, oo, oo, oo, oo, oo, ([58], [58])] mx (.mvA rfl (.mvA rfl (.mvA rfl (.subA rfl rfl (.mvA rfl (.mvA rfl (.mvA rfl (.cW (.cO [58] (slices_swapRangeCmpFunc_Op_ok hv11) (.cons (.s rfl) (.cons (.s rfl) (.cons (.s rfl) (.cons (.s rfl) (.cons (.s rfl) .nil))))) (.cons (k := 58) rfl .nil) rfl) (.nil ?_)))))))))
  obtain rfl := some_eq h
  exact Ends.ret0O (.inr rfl) [58] Tryz.results131 (by decide) (.held rfl .nil)

set_option maxHeartbeats 4000000 in
theorem slices_symMergeCmpFunc_Op_okS {self : ((List DOp) × Int × Int × Int × (DOp → DOp → Option Int)) → Option (List DOp)} (hself : ∀ {s220 : Value} (x : ((List DOp) × Int × Int × Int × (DOp → DOp → Option Int))) (r : (List DOp)), self x = some r → FSpecO Tryz.prog 98 [isV s220, rep x.2.1, rep x.2.2.1, rep x.2.2.2.1, fn2 Tryz.prog (rep (α := Int)) x.2.2.2.2] [(s220, rowV 42 x.1)] (anyV) [some (rowV 42 r)]) {s220 : Value} {x : ((List DOp) × Int × Int × Int × (DOp → DOp → Option Int))} {r : (List DOp)} (h : slices_symMergeCmpFunc_Op_body self x = some r) : FSpecO Tryz.prog 98 [isV s220, rep x.2.1, rep x.2.2.1, rep x.2.2.2.1, fn2 Tryz.prog (rep (α := Int)) x.2.2.2.2] [(s220, rowV 42 x.1)] (anyV) [some (rowV 42 r)] := by
 unfold slices_symMergeCmpFunc_Op_body at h
 refine FSpecO.i Tryz.func98 rfl Tryz.ntmps98 rfl (fun F => (.seq (.sn mx (.mv rfl (.mv rfl (.sub rfl rfl (.eqi rfl (.nil ?_))))))))
 obtain ⟨o_1, h, hK1⟩ := bindR_some h
 refine .tJ (fun s => o_1 = Res.nx s) (.k4 0 1 2 3 rfl rfl rfl rfl (.k 4 rfl .nil)) (.k 220 rfl .nil) ?_ (fun j_1 hj1 => ?_)
 ·
  refine .cb rfl h (fun _ h => ?_) fun _ h => ?_
  ·
   refine .sn mx (.mv rfl (.asn rfl (.nil (.sn mx (.mv rfl (.asn rfl (.nil (.seq ?_))))))))
   obtain ⟨j_3, h, hK3⟩ := bind_some h
   refine .thenJ (ι := Int) (fun j_3 => [(10, ⟨True, rep j_3⟩)]) (fun j_3 => []) (fun s => j_3 = s) (.k2 0 1 rfl rfl .nil) (.k 220 rfl .nil) ?_ (fun j_3' hj3 => ?_)
   ·
    refine .block (.loopL h (fun s4_ => [(10, ⟨True, rep s4_.1⟩), (11, ⟨True, rep s4_.2⟩)]) (fun s4_ => []) (.k2 10 11 rfl rfl .nil) SubB.nil (.k2 0 1 rfl rfl (.k 4 rfl .nil)) (.k 220 rfl .nil) (fun s4_ o_4 h hD4 => ?_))
    unfold slices_symMergeCmpFunc_Op_L1 at h
    refine .seq (.sn mx (.mv rfl (.mv rfl (.lt rfl rfl (.nil (.cb rfl h (fun _ h => ?_) fun _ h => ?_))))))
    ·
     obtain ⟨h1, hv6, h⟩ := bnd_some h
     obtain ⟨hn7, h⟩ := need_some h
     obtain ⟨hn8, h⟩ := need_some h
     obtain ⟨r1, hv9, h⟩ := bind_some h
     refine .skip (.then (.block (.sn mx (.mv rfl (.mv rfl (.add rfl rfl (.c (.toK .none (by kernel_rfl) Tryz.underlying88 (.s rfl)) (.c (.kshr .none (.s rfl) .ki (fun _ => by decide)) (.c (.toInt .none (by kernel_rfl) Tryz.underlying3 (.s rfl)) (.ra hv6 rfl (.nil (.sr [oo, oo, oo, ([220], []), ([220], []), oo, oo, ([220], []), ([220], []), oo, oo] mx (.mvA rfl (.mvA rfl (.mvA rfl (.ixO 220 sl22 ty42 rfl rfl rfl hn7 (.cA (.loadElem0 (k := 220) .none ty42 (.s rfl) rfl (fun _ => hn7)) (.mvA rfl (.mvA rfl (.ixO 220 sl22 ty42 rfl rfl rfl hn8 (.cA (.loadElem0 (k := 220) .none ty42 (.s rfl) rfl (fun _ => hn8)) (.cA (.callV (gx x.1 h1, gx x.1 x.2.1, r1) .none (.s rfl) (fun _ => hv9) (.cons (.s rfl) (.cons (.s rfl) .nil))) (.cA (.lt .none (.s rfl) .i) (.nil (.cb rfl h (fun _ h => ?_) fun _ h => ?_)))))))))))))))))))))))))
     ·
      obtain ⟨i1, hv11, h⟩ := bnd_some h
      exact .rn mx (.mv rfl (.adi rfl (.ra hv11 rfl (.nil (.blkNormal (Ends.ag (some_eq h)))))))
     ·
      exact .rn mx (.mv rfl (.asn rfl (.nil (.blkNormal (Ends.ag (some_eq h))))))
    ·
     refine .exit (.thenExit (.thenExit (.blkExit ?_)))
     replace h := hD4 _ (some_eq h)
     exact Ends.j _ (some_eq h)
   ·
    subst hj3; have h := hK3; clear hK3
    refine .seq (.sn mx (.mv rfl (.asn rfl (.nil ?_))))
    obtain ⟨j_12, h, hK12⟩ := bind_some h
    refine .thenJ (ι := (List DOp)) (fun j_12 => []) (fun j_12 => [(220, some (CPred.at s220 (rowV 42 j_12)))]) (fun s => j_12 = s) Sub.nil SubB.nil ?_ (fun j_12' hj12 => ?_)
    ·
     refine .block (.loopL h (fun s13_ => [(13, ⟨True, rep s13_.1⟩)]) (fun s13_ => [(220, some (CPred.at s220 (rowV 42 s13_.2)))]) (.k 13 rfl .nil) (.k 220 rfl .nil) (.k2 0 10 rfl rfl .nil) SubB.nil (fun s13_ o_13 h hD13 => ?_))
     unfold slices_symMergeCmpFunc_Op_L2 at h
     refine .seq (.sn mx (.mv rfl (.mv rfl (.c (.subW .none (.s rfl) .i) (.lt rfl rfl (.nil (.cb rfl h (fun _ h => ?_) fun _ h => ?_)))))))
     ·
      obtain ⟨hn15, h⟩ := need_some h
      obtain ⟨v1, hv16, h⟩ := bnd_some h
      obtain ⟨hn17, h⟩ := need_some h
      obtain ⟨v2, hv18, h⟩ := bnd_some h
      obtain ⟨hn19, h⟩ := need_some h
      obtain ⟨hn20, h⟩ := need_some h
      obtain ⟨data2, hv21, h⟩ := bnd_some h
      obtain ⟨k1, hv22, h⟩ := bnd_some h
      exact .skip (.then (.seq (.block (.rg [oo, oo, oo, oo, oo, oo, oo, oo, ([220], []), ([220], []), oo, oo, ([220], []), ([220], []), ([220], []), ([220], [220]), ([220], []), ([220], [220])] mx (.mvA rfl (.mvA rfl (.mvA rfl (.mvA rfl (.cA (.addW .none (.s rfl) .i) (.mvA rfl (.mvA rfl (.cA (.addW .none (.s rfl) .i) (.ixO 220 sl22 ty42 rfl rfl rfl hn15 (.cA (.re hv16 (.loadElem0 (k := 220) .none ty42 (.s rfl) rfl (fun _ => hn15))) (.mvA rfl (.mvA rfl (.ixO 220 sl22 ty42 rfl rfl rfl hn17 (.cA (.re hv18 (.loadElem0 (k := 220) .none ty42 (.s rfl) rfl (fun _ => hn17))) (.ixO 220 sl22 ty42 rfl rfl rfl hn19 (.cN (.storeElem0 (k := 220) ty42 (.s rfl) rfl (.s rfl) hn19) (.ixO 220 sl22 ty42 rfl rfl rfl hn20 (.cN (.storeElem0 (k := 220) ty42 (.s rfl) rfl (.s rfl) hn20) (.nil (.blkNormal (.then (.reB (t := 220) rfl (congrArg (fun y => CPred.at s220 (rowV 42 y)) hv21) (.rn mx (.mv rfl (.adi rfl (.ra hv22 rfl (.nil (Ends.ag (some_eq h)))))))))))))))))))))))))))))))))
     ·
      refine .exit (.thenExit (.thenExit (.blkExit ?_)))
      replace h := hD13 _ (some_eq h)
      exact Ends.j _ (some_eq h)
    ·
     subst hj12; have h := hK12; clear hK12
     refine .ret (.thenRet ?_)
     replace h := resb_ab hK1 (some_eq h)
     obtain rfl := some_eq h
     exact Ends.ret0O (.inl rfl) [220] Tryz.results98 (by decide) (.held rfl .nil)
  ·
   exact .skip (Ends.j _ (some_eq h))
 ·
  have h := resb_nx hK1 hj1
  refine .seq (.sn mx (.mv rfl (.mv rfl (.sub rfl rfl (.eqi rfl (.nil ?_))))))
  obtain ⟨o_23, h, hK23⟩ := bindR_some h
  refine .tJ (fun s => o_23 = Res.nx s) (.k4 0 1 2 3 rfl rfl rfl rfl (.k 4 rfl .nil)) (.k 220 rfl .nil) ?_ (fun j_23 hj23 => ?_)
  ·
   refine .cb rfl h (fun _ h => ?_) fun _ h => ?_
   ·
    refine .sn mx (.mv rfl (.asn rfl (.nil (.sn mx (.mv rfl (.asn rfl (.nil (.seq ?_))))))))
    obtain ⟨j_25, h, hK25⟩ := bind_some h
    refine .thenJ (ι := Int) (fun j_25 => [(14, ⟨True, rep j_25⟩)]) (fun j_25 => []) (fun s => j_25 = s) (.k2 0 2 rfl rfl .nil) (.k 220 rfl .nil) ?_ (fun j_25' hj25 => ?_)
    ·
     refine .block (.loopL h (fun s26_ => [(14, ⟨True, rep s26_.1⟩), (15, ⟨True, rep s26_.2⟩)]) (fun s26_ => []) (.k2 14 15 rfl rfl .nil) SubB.nil (.k2 0 2 rfl rfl (.k 4 rfl .nil)) (.k 220 rfl .nil) (fun s26_ o_26 h hD26 => ?_))
     unfold slices_symMergeCmpFunc_Op_L3 at h
     refine .seq (.sn mx (.mv rfl (.mv rfl (.lt rfl rfl (.nil (.cb rfl h (fun _ h => ?_) fun _ h => ?_))))))
     ·
      obtain ⟨h2, hv28, h⟩ := bnd_some h
      obtain ⟨hn29, h⟩ := need_some h
      obtain ⟨hn30, h⟩ := need_some h
      obtain ⟨r2, hv31, h⟩ := bind_some h
      refine .skip (.then (.block (.sn mx (.mv rfl (.mv rfl (.add rfl rfl (.c (.toK .none (by kernel_rfl) Tryz.underlying88 (.s rfl)) (.c (.kshr .none (.s rfl) .ki (fun _ => by decide)) (.c (.toInt .none (by kernel_rfl) Tryz.underlying3 (.s rfl)) (.ra hv28 rfl (.nil (.sr [oo, oo, oo, ([220], []), ([220], []), oo, oo, ([220], []), ([220], []), oo, oo, oo] mx (.mvA rfl (.mvA rfl (.mvA rfl (.ixO 220 sl22 ty42 rfl rfl rfl hn29 (.cA (.loadElem0 (k := 220) .none ty42 (.s rfl) rfl (fun _ => hn29)) (.mvA rfl (.mvA rfl (.ixO 220 sl22 ty42 rfl rfl rfl hn30 (.cA (.loadElem0 (k := 220) .none ty42 (.s rfl) rfl (fun _ => hn30)) (.cA (.callV (gx x.1 x.2.2.1, gx x.1 h2, r2) .none (.s rfl) (fun _ => hv31) (.cons (.s rfl) (.cons (.s rfl) .nil))) (.cA (.lt .none (.s rfl) .i) (.cA (.not .none (.s rfl)) (.nil (.cb rfl h (fun _ h => ?_) fun _ h => ?_))))))))))))))))))))))))))
      ·
       obtain ⟨i2, hv33, h⟩ := bnd_some h
       exact .rn mx (.mv rfl (.adi rfl (.ra hv33 rfl (.nil (.blkNormal (Ends.ag (some_eq h)))))))
      ·
       exact .rn mx (.mv rfl (.asn rfl (.nil (.blkNormal (Ends.ag (some_eq h))))))
     ·
      refine .exit (.thenExit (.thenExit (.blkExit ?_)))
      replace h := hD26 _ (some_eq h)
      exact Ends.j _ (some_eq h)
    ·
     subst hj25; have h := hK25; clear hK25
     refine .seq (.sn mx (.mv rfl (.asn rfl (.nil ?_))))
     obtain ⟨j_34, h, hK34⟩ := bind_some h
     refine .thenJ (ι := (List DOp)) (fun j_34 => []) (fun j_34 => [(220, some (CPred.at s220 (rowV 42 j_34)))]) (fun s => j_34 = s) Sub.nil SubB.nil ?_ (fun j_34' hj34 => ?_)
     ·
      refine .block (.loopL h (fun s35_ => [(17, ⟨True, rep s35_.1⟩)]) (fun s35_ => [(220, some (CPred.at s220 (rowV 42 s35_.2)))]) (.k 17 rfl .nil) (.k 220 rfl .nil) (.k2 0 14 rfl rfl .nil) SubB.nil (fun s35_ o_35 h hD35 => ?_))
      unfold slices_symMergeCmpFunc_Op_L4 at h
      refine .seq (.sn mx (.mv rfl (.mv rfl (.c (.gt .none (.s rfl) (.s rfl)) (.nil (.cb rfl h (fun _ h => ?_) fun _ h => ?_))))))
      ·
       obtain ⟨hn37, h⟩ := need_some h
       obtain ⟨v3, hv38, h⟩ := bnd_some h
       obtain ⟨hn39, h⟩ := need_some h
       obtain ⟨v4, hv40, h⟩ := bnd_some h
       obtain ⟨hn41, h⟩ := need_some h
       obtain ⟨hn42, h⟩ := need_some h
       obtain ⟨data3, hv43, h⟩ := bnd_some h
       obtain ⟨k2, hv44, h⟩ := bnd_some h
       exact .skip (.then (.seq (.block (.rg [oo, oo, oo, oo, oo, oo, oo, oo, ([220], []), ([220], []), oo, oo, ([220], []), ([220], []), ([220], []), ([220], [220]), ([220], []), ([220], [220])] mx (.mvA rfl (.mvA rfl (.mvA rfl (.mvA rfl (.cA (.subW .none (.s rfl) .i) (.mvA rfl (.mvA rfl (.cA (.subW .none (.s rfl) .i) (.ixO 220 sl22 ty42 rfl rfl rfl hn37 (.cA (.re hv38 (.loadElem0 (k := 220) .none ty42 (.s rfl) rfl (fun _ => hn37))) (.mvA rfl (.mvA rfl (.ixO 220 sl22 ty42 rfl rfl rfl hn39 (.cA (.re hv40 (.loadElem0 (k := 220) .none ty42 (.s rfl) rfl (fun _ => hn39))) (.ixO 220 sl22 ty42 rfl rfl rfl hn41 (.cN (.storeElem0 (k := 220) ty42 (.s rfl) rfl (.s rfl) hn41) (.ixO 220 sl22 ty42 rfl rfl rfl hn42 (.cN (.storeElem0 (k := 220) ty42 (.s rfl) rfl (.s rfl) hn42) (.nil (.blkNormal (.then (.reB (t := 220) rfl (congrArg (fun y => CPred.at s220 (rowV 42 y)) hv43) (.rn mx (.mv rfl (.c (.subW .none (.s rfl) .i) (.ra hv44 rfl (.nil (Ends.ag (some_eq h)))))))))))))))))))))))))))))))))
      ·
       refine .exit (.thenExit (.thenExit (.blkExit ?_)))
       replace h := hD35 _ (some_eq h)
       exact Ends.j _ (some_eq h)
     ·
      subst hj34; have h := hK34; clear hK34
      refine .ret (.thenRet ?_)
      replace h := resb_ab hK23 (some_eq h)
      obtain rfl := some_eq h
      exact Ends.ret0O (.inl rfl) [220] Tryz.results98 (by decide) (.held rfl .nil)
   ·
    exact .skip (Ends.j _ (some_eq h))
  ·
   have h := resb_nx hK23 hj23
   obtain ⟨mid1, hv45, h⟩ := bnd_some h
   obtain ⟨n1, hv46, h⟩ := bnd_some h
   refine .sn mx (.mv rfl (.mv rfl (.add rfl rfl (.c (.toK .none (by kernel_rfl) Tryz.underlying88 (.s rfl)) (.c (.kshr .none (.s rfl) .ki (fun _ => by decide)) (.c (.toInt .none (by kernel_rfl) Tryz.underlying3 (.s rfl)) (.ra hv45 rfl (.nil (.sn mx (.mv rfl (.mv rfl (.add rfl rfl (.ra hv46 rfl (.nil (.sn mx (.asi (.asi (.nil (.seq (.sn mx (.mv rfl (.mv rfl (.c (.gt .none (.s rfl) (.s rfl)) (.nil ?_))))))))))))))))))))))))
   obtain ⟨j_47, h, hK47⟩ := bind_some h
   refine .thenJ (ι := (Int × Int)) (fun j_47 => [(20, ⟨True, rep j_47.1⟩), (21, ⟨True, rep j_47.2⟩)]) (fun j_47 => []) (fun s => j_47 = s) (.k4 0 1 2 3 rfl rfl rfl rfl (.k2 4 18 rfl rfl (.k 19 rfl .nil))) (.k 220 rfl .nil) ?_ (fun j_47' hj47 => ?_)
   ·
    refine .cb rfl h (fun _ h => ?_) fun _ h => ?_
    ·
     obtain ⟨start1, hv49, h⟩ := bnd_some h
     exact .sn mx (.mv rfl (.mv rfl (.sub rfl rfl (.ra hv49 rfl (.nil (.rn mx (.mv rfl (.asn rfl (.nil (Ends.j _ (some_eq h)))))))))))
    ·
     exact .sn mx (.mv rfl (.asn rfl (.nil (.rn mx (.mv rfl (.asn rfl (.nil (Ends.j _ (some_eq h)))))))))
   ·
    subst hj47; have h := hK47; clear hK47
    refine .sn mx (.mv rfl (.c (.subW .none (.s rfl) .i) (.asn rfl (.nil (.seq ?_)))))
    obtain ⟨j_50, h, hK50⟩ := bind_some h
    refine .thenJ (ι := Int) (fun j_50 => [(20, ⟨True, rep j_50⟩)]) (fun j_50 => []) (fun s => j_50 = s) (.k4 0 1 2 3 rfl rfl rfl rfl (.k2 4 18 rfl rfl (.k 19 rfl .nil))) (.k 220 rfl .nil) ?_ (fun j_50' hj50 => ?_)
    ·
     refine .block (.loopL h (fun s51_ => [(20, ⟨True, rep s51_.1⟩), (21, ⟨True, rep s51_.2⟩)]) (fun s51_ => []) (.k2 20 21 rfl rfl .nil) SubB.nil (.k4 0 1 2 3 rfl rfl rfl rfl (.k4 4 18 19 22 rfl rfl rfl rfl .nil)) (.k 220 rfl .nil) (fun s51_ o_51 h hD51 => ?_))
     unfold slices_symMergeCmpFunc_Op_L5 at h
     refine .seq (.sn mx (.mv rfl (.mv rfl (.lt rfl rfl (.nil (.cb rfl h (fun _ h => ?_) fun _ h => ?_))))))
     ·
      obtain ⟨c1, hv53, h⟩ := bnd_some h
      obtain ⟨hn54, h⟩ := need_some h
      obtain ⟨hn55, h⟩ := need_some h
      obtain ⟨r3, hv56, h⟩ := bind_some h
      refine .skip (.then (.block (.sn mx (.mv rfl (.mv rfl (.add rfl rfl (.c (.toK .none (by kernel_rfl) Tryz.underlying88 (.s rfl)) (.c (.kshr .none (.s rfl) .ki (fun _ => by decide)) (.c (.toInt .none (by kernel_rfl) Tryz.underlying3 (.s rfl)) (.ra hv53 rfl (.nil (.sr [oo, oo, oo, oo, oo, ([220], []), ([220], []), oo, oo, ([220], []), ([220], []), oo, oo, oo] mx (.mvA rfl (.mvA rfl (.mvA rfl (.mvA rfl (.subA rfl rfl (.ixO 220 sl22 ty42 rfl rfl rfl hn54 (.cA (.loadElem0 (k := 220) .none ty42 (.s rfl) rfl (fun _ => hn54)) (.mvA rfl (.mvA rfl (.ixO 220 sl22 ty42 rfl rfl rfl hn55 (.cA (.loadElem0 (k := 220) .none ty42 (.s rfl) rfl (fun _ => hn55)) (.cA (.callV (gx x.1 (W ((W (n1 - 1)) - c1)), gx x.1 c1, r3) .none (.s rfl) (fun _ => hv56) (.cons (.s rfl) (.cons (.s rfl) .nil))) (.cA (.lt .none (.s rfl) .i) (.cA (.not .none (.s rfl)) (.nil (.cb rfl h (fun _ h => ?_) fun _ h => ?_))))))))))))))))))))))))))))
      ·
       obtain ⟨start2, hv58, h⟩ := bnd_some h
       exact .rn mx (.mv rfl (.adi rfl (.ra hv58 rfl (.nil (.blkNormal (Ends.ag (some_eq h)))))))
      ·
       exact .rn mx (.mv rfl (.asn rfl (.nil (.blkNormal (Ends.ag (some_eq h))))))
     ·
      refine .exit (.thenExit (.thenExit (.blkExit ?_)))
      replace h := hD51 _ (some_eq h)
      exact Ends.j _ (some_eq h)
    ·
     subst hj50; have h := hK50; clear hK50
     obtain ⟨end1, hv59, h⟩ := bnd_some h
     refine .sn mx (.mv rfl (.mv rfl (.sub rfl rfl (.ra hv59 rfl (.nil (.seq (.sn mx (.mv rfl (.mv rfl (.lt rfl rfl (.mv rfl (.mg rfl rfl rfl (.mg rfl rfl rfl (.c (.lt (.at rfl rfl) (.tmp rfl id) (.tmp rfl id)) (.pa rfl rfl (.nil ?_))))))))))))))))
     obtain ⟨j_60, h, hK60⟩ := bind_some h
     refine .thenJ (ι := (List DOp)) (fun j_60 => []) (fun j_60 => [(220, some (CPred.at s220 (rowV 42 j_60)))]) (fun s => j_60 = s) (.k4 0 1 3 4 rfl rfl rfl rfl (.k2 18 20 rfl rfl (.k 24 rfl .nil))) SubB.nil ?_ (fun j_60' hj60 => ?_)
     ·
      refine .cb rfl h (fun _ h => ?_) fun _ h => ?_
      ·
       obtain ⟨r4, hv62, h⟩ := bind_some h
       exact .rg [oo, oo, oo, oo, oo, ([220], [220])] mx (.mvA rfl (.mvA rfl (.mvA rfl (.mvA rfl (.mvA rfl (.cW (.cO [220] (slices_rotateCmpFunc_Op_ok hv62) (.cons (.s rfl) (.cons (.s rfl) (.cons (.s rfl) (.cons (.s rfl) (.cons (.s rfl) .nil))))) (.cons (k := 220) rfl .nil) rfl) (.nil (Ends.j _ (some_eq h)))))))))
      ·
       exact .skip (Ends.j _ (some_eq h))
     ·
      subst hj60; have h := hK60; clear hK60
      refine .seq (.sn mx (.mv rfl (.mv rfl (.lt rfl rfl (.mv rfl (.mg rfl rfl rfl (.mg rfl rfl rfl (.c (.lt (.at rfl rfl) (.tmp rfl id) (.tmp rfl id)) (.pa rfl rfl (.nil ?_))))))))))
      obtain ⟨j_63, h, hK63⟩ := bind_some h
      refine .thenJ (ι := (List DOp)) (fun j_63 => []) (fun j_63 => [(220, some (CPred.at s220 (rowV 42 j_63)))]) (fun s => j_63 = s) (.k4 0 3 4 18 rfl rfl rfl rfl (.k 24 rfl .nil)) SubB.nil ?_ (fun j_63' hj63 => ?_)
      ·
       refine .cb rfl h (fun _ h => ?_) fun _ h => ?_
       ·
        obtain ⟨r5, hv65, h⟩ := bind_some h
        exact .rg [oo, oo, oo, oo, oo, ([220], [220])] mx (.mvA rfl (.mvA rfl (.mvA rfl (.mvA rfl (.mvA rfl (.cW (.cO [220] (hself _ _ hv65) (.cons (.s rfl) (.cons (.s rfl) (.cons (.s rfl) (.cons (.s rfl) (.cons (.s rfl) .nil))))) (.cons (k := 220) rfl .nil) rfl) (.nil (Ends.j _ (some_eq h)))))))))
       ·
        exact .skip (Ends.j _ (some_eq h))
      ·
       subst hj63; have h := hK63; clear hK63
       refine .sn mx (.mv rfl (.mv rfl (.lt rfl rfl (.mv rfl (.mg rfl rfl rfl (.mg rfl rfl rfl (.c (.lt (.at rfl rfl) (.tmp rfl id) (.tmp rfl id)) (.pa rfl rfl (.nil (.cb rfl h (fun _ h => ?_) fun _ h => ?_))))))))))
       ·
        obtain ⟨r6, hv67, h⟩ := bind_some h
        refine .rg [oo, oo, oo, oo, oo, ([220], [220])] mx (.mvA rfl (.mvA rfl (.mvA rfl (.mvA rfl (.mvA rfl (.cW (.cO [220] (hself _ _ hv67) (.cons (.s rfl) (.cons (.s rfl) (.cons (.s rfl) (.cons (.s rfl) (.cons (.s rfl) .nil))))) (.cons (k := 220) rfl .nil) rfl) (.nil ?_)))))))
        obtain rfl := some_eq h
        exact Ends.ret0O (.inr rfl) [220] Tryz.results98 (by decide) (.held rfl .nil)
       ·
        refine .skip ?_
        obtain rfl := some_eq h
        exact Ends.ret0O (.inr rfl) [220] Tryz.results98 (by decide) (.held rfl .nil)
theorem slices_symMergeCmpFunc_Op_okN : ∀ (k : Nat) {s220 : Value} (x : ((List DOp) × Int × Int × Int × (DOp → DOp → Option Int))) (r : (List DOp)) (h : fixN slices_symMergeCmpFunc_Op_body k x = some r), FSpecO Tryz.prog 98 [isV s220, rep x.2.1, rep x.2.2.1, rep x.2.2.2.1, fn2 Tryz.prog (rep (α := Int)) x.2.2.2.2] [(s220, rowV 42 x.1)] (anyV) [some (rowV 42 r)]
 | 0, _, x, r, h => by simp [fixN] at h
 | k + 1, _, x, r, h => slices_symMergeCmpFunc_Op_okS (slices_symMergeCmpFunc_Op_okN k) h
theorem slices_symMergeCmpFunc_Op_ok {data1 : (List DOp)} {a1 : Int} {m1 : Int} {b1 : Int} {cmp1 : (DOp → DOp → Option Int)} {r : (List DOp)} {s220 : Value} (h : slices_symMergeCmpFunc_Op data1 a1 m1 b1 cmp1 = some r) : FSpecO Tryz.prog 98 [isV s220, rep a1, rep m1, rep b1, fn2 Tryz.prog (rep (α := Int)) cmp1] [(s220, rowV 42 data1)] (anyV) [some (rowV 42 r)] :=
 let ⟨k, hk⟩ := fixp_some h
 slices_symMergeCmpFunc_Op_okN k (data1, a1, m1, b1, cmp1) r hk

theorem slices_stableCmpFunc_Op_ok {data1 : (List DOp)} {n1 : Int} {cmp1 : (DOp → DOp → Option Int)} {r : (List DOp)} {s63 : Value} (h : slices_stableCmpFunc_Op data1 n1 cmp1 = some r) : FSpecO Tryz.prog 68 [isV s63, rep n1, fn2 Tryz.prog (rep (α := Int)) cmp1] [(s63, rowV 42 data1)] (anyV) [some (rowV 42 r)] := by
 unfold slices_stableCmpFunc_Op at h
 refine FSpecO.i Tryz.func68 rfl Tryz.ntmps68 rfl (fun F => (.sn mx (.asi (.nil (.sn mx (.mv rfl (.asi (.asn rfl (.nil (.seq ?_))))))))))
 obtain ⟨j_1, h, hK1⟩ := bind_some h
 refine .thenJ (ι := (Int × (List DOp))) (fun j_1 => [(7, ⟨True, rep j_1.1⟩)]) (fun j_1 => [(63, some (CPred.at s63 (rowV 42 j_1.2)))]) (fun s => j_1 = s) (.k4 0 1 2 6 rfl rfl rfl rfl .nil) SubB.nil ?_ (fun j_1' hj1 => ?_)
 ·
  refine .block (.loopL h (fun s2_ => [(7, ⟨True, rep s2_.1⟩), (8, ⟨True, rep s2_.2.1⟩)]) (fun s2_ => [(63, some (CPred.at s63 (rowV 42 s2_.2.2)))]) (.k2 7 8 rfl rfl .nil) (.k 63 rfl .nil) (.k4 0 1 2 6 rfl rfl rfl rfl .nil) SubB.nil (fun s2_ o_2 h hD2 => ?_))
  unfold slices_stableCmpFunc_Op_L1 at h
  refine .seq (.sn mx (.mv rfl (.mv rfl (.c (.le .none (.s rfl) (.s rfl)) (.nil (.cb rfl h (fun _ h => ?_) fun _ h => ?_))))))
  ·
   obtain ⟨r1, hv4, h⟩ := bind_some h
   obtain ⟨b1, hv5, h⟩ := bnd_some h
   exact .skip (.then (.block (.sr [oo, oo, oo, oo, ([63], [63])] mx (.mvA rfl (.mvA rfl (.mvA rfl (.mvA rfl (.cW (.cO [63] (slices_insertionSortCmpFunc_Op_ok hv4) (.cons (.s rfl) (.cons (.s rfl) (.cons (.s rfl) (.cons (.s rfl) .nil)))) (.cons (k := 63) rfl .nil) rfl) (.nil (.sn mx (.mv rfl (.asn rfl (.nil (.rn mx (.mv rfl (.mv rfl (.add rfl rfl (.ra hv5 rfl (.nil (.blkNormal (Ends.ag (some_eq h))))))))))))))))))))))
  ·
   refine .exit (.thenExit (.thenExit (.blkExit ?_)))
   replace h := hD2 _ (some_eq h)
   exact Ends.j _ (some_eq h)
 ·
  subst hj1; have h := hK1; clear hK1
  obtain ⟨r2, hv6, h⟩ := bind_some h
  refine .sr [oo, oo, oo, oo, ([63], [63])] mx (.mvA rfl (.mvA rfl (.mvA rfl (.mvA rfl (.cW (.cO [63] (slices_insertionSortCmpFunc_Op_ok hv6) (.cons (.s rfl) (.cons (.s rfl) (.cons (.s rfl) (.cons (.s rfl) .nil)))) (.cons (k := 63) rfl .nil) rfl) (.nil (.block (.loopL h (fun s7_ => [(6, ⟨True, rep s7_.1⟩)]) (fun s7_ => [(63, some (CPred.at s63 (rowV 42 s7_.2)))]) (.k 6 rfl .nil) (.k 63 rfl .nil) (.k2 0 1 rfl rfl (.k 2 rfl .nil)) SubB.nil (fun s7_ o_7 h hD7 => ?_)))))))))
  unfold slices_stableCmpFunc_Op_L2 at h
  refine .seq (.sn mx (.mv rfl (.mv rfl (.lt rfl rfl (.nil (.cb rfl h (fun _ h => ?_) fun _ h => ?_))))))
  ·
   obtain ⟨b2, hv9, h⟩ := bnd_some h
   refine .skip (.then (.block (.sn mx (.mv rfl (.c (.mulW .none .i (.s rfl)) (.asi (.ra hv9 rfl (.nil (.seq ?_)))))))))
   obtain ⟨j_10, h, hK10⟩ := bind_some h
   refine .thenJ (ι := (Int × (List DOp))) (fun j_10 => [(7, ⟨True, rep j_10.1⟩)]) (fun j_10 => [(63, some (CPred.at s63 (rowV 42 j_10.2)))]) (fun s => j_10 = s) (.k4 0 1 2 6 rfl rfl rfl rfl .nil) SubB.nil ?_ (fun j_10' hj10 => ?_)
   ·
    refine .block (.loopL h (fun s11_ => [(7, ⟨True, rep s11_.1⟩), (8, ⟨True, rep s11_.2.1⟩)]) (fun s11_ => [(63, some (CPred.at s63 (rowV 42 s11_.2.2)))]) (.k2 7 8 rfl rfl .nil) (.k 63 rfl .nil) (.k4 0 1 2 6 rfl rfl rfl rfl .nil) SubB.nil (fun s11_ o_11 h hD11 => ?_))
    unfold slices_stableCmpFunc_Op_L3 at h
    refine .seq (.sn mx (.mv rfl (.mv rfl (.c (.le .none (.s rfl) (.s rfl)) (.nil (.cb rfl h (fun _ h => ?_) fun _ h => ?_))))))
    ·
     obtain ⟨r3, hv13, h⟩ := bind_some h
     obtain ⟨b3, hv14, h⟩ := bnd_some h
     exact .skip (.then (.block (.sr [oo, oo, oo, oo, oo, oo, oo, ([63], [63])] mx (.mvA rfl (.mvA rfl (.mvA rfl (.mvA rfl (.addA rfl rfl (.mvA rfl (.mvA rfl (.cW (.cO [63] (slices_symMergeCmpFunc_Op_ok hv13) (.cons (.s rfl) (.cons (.s rfl) (.cons (.s rfl) (.cons (.s rfl) (.cons (.s rfl) .nil))))) (.cons (k := 63) rfl .nil) rfl) (.nil (.sn mx (.mv rfl (.asn rfl (.nil (.rn mx (.mv rfl (.mv rfl (.c (.mulW .none .i (.s rfl)) (.add rfl rfl (.ra hv14 rfl (.nil (.blkNormal (Ends.ag (some_eq h))))))))))))))))))))))))))
    ·
     refine .exit (.thenExit (.thenExit (.blkExit ?_)))
     replace h := hD11 _ (some_eq h)
     exact Ends.j _ (some_eq h)
   ·
    subst hj10; have h := hK10; clear hK10
    obtain ⟨m1, hv15, h⟩ := bnd_some h
    refine .seq (.sn mx (.mv rfl (.mv rfl (.add rfl rfl (.ra hv15 rfl (.nil (.sn mx (.mv rfl (.mv rfl (.lt rfl rfl (.nil ?_)))))))))))
    obtain ⟨j_16, h, hK16⟩ := bind_some h
    refine .thenJ (ι := (List DOp)) (fun j_16 => []) (fun j_16 => [(63, some (CPred.at s63 (rowV 42 j_16)))]) (fun s => j_16 = s) (.k4 0 1 2 6 rfl rfl rfl rfl .nil) SubB.nil ?_ (fun j_16' hj16 => ?_)
    ·
     refine .cb rfl h (fun _ h => ?_) fun _ h => ?_
     ·
      obtain ⟨r4, hv18, h⟩ := bind_some h
      exact .rg [oo, oo, oo, oo, oo, ([63], [63])] mx (.mvA rfl (.mvA rfl (.mvA rfl (.mvA rfl (.mvA rfl (.cW (.cO [63] (slices_symMergeCmpFunc_Op_ok hv18) (.cons (.s rfl) (.cons (.s rfl) (.cons (.s rfl) (.cons (.s rfl) (.cons (.s rfl) .nil))))) (.cons (k := 63) rfl .nil) rfl) (.nil (Ends.j _ (some_eq h)))))))))
     ·
      exact .skip (Ends.j _ (some_eq h))
    ·
     subst hj16; have h := hK16; clear hK16
     obtain ⟨blockSize1, hv19, h⟩ := bnd_some h
     exact .rn mx (.mv rfl (.c (.mulW .none (.s rfl) .i) (.ra hv19 rfl (.nil (.blkNormal (Ends.ag (some_eq h)))))))
  ·
   refine .exit (.thenExit (.thenExit (.blkExit ?_)))
   replace h := hD7 _ (some_eq h)
   obtain rfl := some_eq h
   exact Ends.ret0O (.inr rfl) [63] Tryz.results68 (by decide) (.held rfl .nil)

theorem slices_SortStableFunc_Op_ok {x1 : (List DOp)} {cmp1 : (DOp → DOp → Option Int)} {r : (List DOp)} {s9 : Value} (h : slices_SortStableFunc_Op x1 cmp1 = some r) : FSpecO Tryz.prog 43 [isV s9, fn2 Tryz.prog (rep (α := Int)) cmp1] [(s9, rowV 42 x1)] (anyV) [some (rowV 42 r)] := by
 unfold slices_SortStableFunc_Op at h
 obtain ⟨r1, hv1, h⟩ := bind_some h
 refine FSpecO.i Tryz.func43 rfl Tryz.ntmps43 rfl (fun F => (.rg [oo, oo, ([9], []), oo, ([9], [9])] mx (.mvA rfl (.mvA rfl (.cA (.lenO (k := 9) sl22 (.told (.s rfl) rfl)) (.mvA rfl (.cW (.cO [9] (slices_stableCmpFunc_Op_ok hv1) (.cons (.s rfl) (.cons (.s rfl) (.cons (.s rfl) .nil))) (.cons (k := 9) rfl .nil) rfl) (.nil ?_))))))))
 obtain rfl := some_eq h
 exact Ends.ret0O (.inr rfl) [9] Tryz.results43 (by decide) (.held rfl .nil)

theorem slices_Compact_Op_ok {s1 : (List DOp)} {r : (List DOp)} {s61 : Value} (h : slices_Compact_Op s1 = some r) : FSpecO Tryz.prog 44 [isV s61] [(s61, rowV 42 s1)] (anyV) [none, some (rowV 42 r)] := by
 unfold slices_Compact_Op at h
 refine FSpecO.i Tryz.func44 rfl Tryz.ntmps44 rfl (fun F => (.sn mx (.c (.assign .none (.const (x := ([] : (List DOp))) (fun M w => ⟨_, ⟨none, 0, rfl, Nat.le_refl _, by decide, rfl⟩, rfl⟩))) (.nil (.seq (.sr [oo, ([61], []), oo] mx (.mvA rfl (.cA (.lenO (k := 61) sl22 (.told (.s rfl) rfl)) (.cA (.lt .none (.s rfl) .i) (.nil (.cb rfl h (fun _ h => ?_) fun _ h => ?_)))))))))))
 ·
  refine .sn mx (.mv rfl (.asn rfl (.nil (.ret (.thenRet (.anon (t := 2) (g := 61) rfl rfl trivial rfl ?_))))))
  obtain rfl := some_eq h
  exact Ends.ret1O (.inl rfl) [61, 2] Tryz.results44 (by decide) (.skip (.res rfl rfl)) (ResOK.tmp rfl trivial (fun _ _ _ _ => trivial))
 ·
  refine .skip (.then (.seq (.sn mx (.asi (.nil ?_)))))
  obtain ⟨o_2, h, hK2⟩ := bindR_some h
  refine .tJ (fun s => o_2 = Res.nx s) (.k 0 rfl .nil) (.k 61 rfl .nil) ?_ (fun j_2 hj2 => ?_)
  ·
   refine .block (.loopL h (fun s3_ => [(3, ⟨True, rep s3_⟩)]) (fun s3_ => []) (.k 3 rfl .nil) SubB.nil (.k 0 rfl .nil) (.k 61 rfl .nil) (fun s3_ o_3 h hD3 => ?_))
   unfold slices_Compact_Op_L1 at h
   refine .seq (.sr [oo, oo, ([61], []), oo] mx (.mvA rfl (.mvA rfl (.cA (.lenO (k := 61) sl22 (.told (.s rfl) rfl)) (.cA (.lt .none (.s rfl) (.s rfl)) (.nil (.cb rfl h (fun _ h => ?_) fun _ h => ?_)))))))
   ·
    refine .skip (.then (.seq ?_))
    obtain ⟨o_5, h, hK5⟩ := bindR_some h
    refine .tJ (fun s => o_5 = Res.nx s) (.k2 0 3 rfl rfl .nil) (.k 61 rfl .nil) ?_ (fun j_5 hj5 => ?_)
    ·
     obtain ⟨hn6, h⟩ := need_some h
     obtain ⟨hn7, h⟩ := need_some h
     refine .block (.sr [oo, oo, ([61], []), ([61], []), oo, oo, oo, ([61], []), ([61], []), oo] mx (.mvA rfl (.mvA rfl (.ixO 61 sl22 ty42 rfl rfl rfl hn6 (.cA (.loadElem0 (k := 61) .none ty42 (.s rfl) rfl (fun _ => hn6)) (.mvA rfl (.mvA rfl (.cA (.subW .none (.s rfl) .i) (.ixO 61 sl22 ty42 rfl rfl rfl hn7 (.cA (.loadElem0 (k := 61) .none ty42 (.s rfl) rfl (fun _ => hn7)) (.cA (.eqS .none eqa42 (.s rfl) (.s rfl)) (.nil (.cb rfl h (fun _ h => ?_) fun _ h => ?_)))))))))))))
     ·
      obtain ⟨hn9, h⟩ := need_some h
      refine .sr [oo, oo, ([61], []), oo] mx (.mvA rfl (.mvA rfl (.cA (.sliceLend (k := 61) sl22 ty42 (.s rfl) rfl (.s rfl) rfl hn9) (.asnA rfl (.nil (.seq (.sn mx (.asi (.nil ?_)))))))))
      obtain ⟨j_10, h, hK10⟩ := bind_some h
      refine .thenJ (ι := (Int × (List DOp))) (fun j_10 => [(3, ⟨True, rep j_10.1⟩)]) (fun j_10 => [(61, some (CPred.at s61 (rowV 42 j_10.2)))]) (fun s => j_10 = s) (.k 0 rfl .nil) SubB.nil ?_ (fun j_10' hj10 => ?_)
      ·
       refine .block (.loopL h (fun s11_ => [(3, ⟨True, rep s11_.1⟩), (5, ⟨True, rep s11_.2.1⟩)]) (fun s11_ => [(61, some (CPred.at s61 (rowV 42 s11_.2.2)))]) (.k2 3 5 rfl rfl .nil) (.k 61 rfl .nil) (.k2 0 4 rfl rfl .nil) SubB.nil (fun s11_ o_11 h hD11 => ?_))
       unfold slices_Compact_Op_L2 at h
       obtain ⟨hn12, h⟩ := need_some h
       refine .seq (.sr [oo, oo, ([61], []), oo] mx (.mvA rfl (.mvA rfl (.cA (.lenPart (k := 61) sl22 (.s rfl) rfl hn12) (.cA (.lt .none (.s rfl) (.s rfl)) (.nil (.cb rfl h (fun _ h => ?_) fun _ h => ?_)))))))
       ·
        refine .skip (.then (.seq ?_))
        obtain ⟨j_14, h, hK14⟩ := bind_some h
        refine .thenJ (ι := (Int × (List DOp))) (fun j_14 => [(3, ⟨True, rep j_14.1⟩)]) (fun j_14 => [(61, some (CPred.at s61 (rowV 42 j_14.2)))]) (fun s => j_14 = s) (.k2 0 4 rfl rfl (.k 5 rfl .nil)) SubB.nil ?_ (fun j_14' hj14 => ?_)
        ·
         obtain ⟨hn15, h⟩ := need_some h
         obtain ⟨hn16, h⟩ := need_some h
         obtain ⟨hn17, h⟩ := need_some h
         obtain ⟨hn18, h⟩ := need_some h
         obtain ⟨hn19, h⟩ := need_some h
         obtain ⟨hn20, h⟩ := need_some h
         refine .block (.sr [oo, oo, ([61], []), ([61], []), oo, oo, oo, ([61], []), ([61], []), oo] mx (.mvA rfl (.mvA rfl (.cA (.indexPart (k := 61) .none sl22 ty42 (.s rfl) rfl (.s rfl) (fun _ => hn15) (fun _ => hn16)) (.cA (.loadElem0 (k := 61) .none ty42 (.s rfl) rfl (fun _ => hn17)) (.mvA rfl (.mvA rfl (.cA (.subW .none (.s rfl) .i) (.cA (.indexPart (k := 61) .none sl22 ty42 (.s rfl) rfl (.s rfl) (fun _ => hn18) (fun _ => hn19)) (.cA (.loadElem0 (k := 61) .none ty42 (.s rfl) rfl (fun _ => hn20)) (.cA (.neS .none eqa42 (.s rfl) (.s rfl)) (.nil (.cb rfl h (fun _ h => ?_) fun _ h => ?_)))))))))))))
         ·
          obtain ⟨hn22, h⟩ := need_some h
          obtain ⟨hn23, h⟩ := need_some h
          obtain ⟨hn24, h⟩ := need_some h
          obtain ⟨v1, hv25, h⟩ := bnd_some h
          obtain ⟨hn26, h⟩ := need_some h
          obtain ⟨s2, hv27, h⟩ := bnd_some h
          obtain ⟨k1, hv28, h⟩ := bnd_some h
          exact .sr [oo, oo, oo, oo, ([61], []), ([61], []), ([61], []), ([61], [61])] mx (.mvA rfl (.mvA rfl (.mvA rfl (.mvA rfl (.cA (.indexPart (k := 61) .none sl22 ty42 (.s rfl) rfl (.s rfl) (fun _ => hn22) (fun _ => hn23)) (.cA (.re hv25 (.loadElem0 (k := 61) .none ty42 (.s rfl) rfl (fun _ => hn24))) (.ixO 61 sl22 ty42 rfl rfl rfl hn26 (.cN (.storeElem0 (k := 61) ty42 (.s rfl) rfl (.s rfl) hn26) (.nil (.reB (t := 61) rfl (congrArg (fun y => CPred.at s61 (rowV 42 y)) hv27) (.rn mx (.mv rfl (.adi rfl (.ra hv28 rfl (.nil (.blkNormal (Ends.j _ (some_eq h))))))))))))))))))
         ·
          exact .skip (.blkNormal (Ends.j _ (some_eq h)))
        ·
         subst hj14; have h := hK14; clear hK14
         obtain ⟨k2_1, hv29, h⟩ := bnd_some h
         exact .rn mx (.mv rfl (.adi rfl (.ra hv29 rfl (.nil (Ends.ag (some_eq h))))))
       ·
        refine .exit (.thenExit (.thenExit (.blkExit ?_)))
        replace h := hD11 _ (some_eq h)
        exact Ends.j _ (some_eq h)
      ·
       subst hj10; have h := hK10; clear hK10
       obtain ⟨hn30, h⟩ := need_some h
       obtain ⟨s3, hv31, h⟩ := bnd_some h
       obtain ⟨hn32, h⟩ := need_some h
       obtain ⟨v2, hv33, h⟩ := bnd_some h
       refine .sr [oo, oo, ([61], []), ([61], [61])] mx (.mvA rfl (.mvA rfl (.cA (.sliceLend (k := 61) sl22 ty42 (.s rfl) rfl (.s rfl) rfl hn30) (.cN (.clearPart (k := 61) sl22 zo42 (.s rfl) rfl hn30) (.nil (.reB (t := 61) rfl (congrArg (fun y => CPred.at s61 (rowV 42 y)) hv31) (.sr [oo, oo, ([61], [59, 61]), ([59], [2, 59])] mx (.mvA rfl (.mvA rfl (.cW (.sliceRow (k := 61) sl22 ty42 rfl (.s rfl) rfl rfl (.s rfl) hn32) (.cW (.passRow rfl (.tmp rfl)) (.nil (.reB (t := 2) rfl (congrArg (rowV 42) hv33) (.nameRow (t := 2) (g := 5001) rfl rfl rfl (fun s5001 => (.ret (.blkRet (.thenRet (.thenRet (.blkRet (.thenRet (.anon (t := 2) (g := 5001) rfl rfl trivial rfl ?_))))))))))))))))))))))
       replace h := resb_ab hK5 (some_eq h)
       replace h := hD3 _ (some_eq h)
       replace h := resb_ab hK2 (some_eq h)
       obtain rfl := some_eq h
       exact Ends.ret1O (.inl rfl) [61, 2] Tryz.results44 (by decide) (.skip (.res rfl rfl)) (ResOK.tmp rfl trivial (fun _ _ _ _ => trivial))
     ·
      exact .skip (.blkNormal (Ends.j _ (some_eq h)))
    ·
     have h := resb_nx hK5 hj5
     obtain ⟨k2, hv34, h⟩ := bnd_some h
     exact .rn mx (.mv rfl (.adi rfl (.ra hv34 rfl (.nil (Ends.ag (some_eq h))))))
   ·
    refine .exit (.thenExit (.thenExit (.blkExit ?_)))
    replace h := hD3 _ (some_eq h)
    exact Ends.j _ (some_eq h)
  ·
   have h := resb_nx hK2 hj2
   refine .sn mx (.mv rfl (.asn rfl (.nil (.ret (.anon (t := 2) (g := 61) rfl rfl trivial rfl ?_)))))
   obtain rfl := some_eq h
   exact Ends.ret1O (.inl rfl) [61, 2] Tryz.results44 (by decide) (.skip (.res rfl rfl)) (ResOK.tmp rfl trivial (fun _ _ _ _ => trivial))

theorem edit_Merge_ok {a1 : (List DOp)} {b1 : (List DOp)} {r : ((List DOp) × Int)}  (h : edit_Merge a1 b1 = some r) : FSpec Tryz.prog 16 [rep a1, rep b1] (tup [rep r.1, rep r.2]) := by
 unfold edit_Merge at h
 obtain ⟨e1, hv1, h⟩ := bind_some h
 refine FSpec.i Tryz.func16 rfl Tryz.ntmps16 rfl (fun F => (.sn mx (.c (.assign .none (.const (x := ([] : (List DOp))) (fun M w => ⟨_, ⟨none, 0, rfl, Nat.le_refl _, by decide, rfl⟩, rfl⟩))) (.asi (.nil (.seq (.sn mx (.mv rfl (.c (.call .none (edit_Check_ok hv1) (.cons (.s rfl) .nil)) (.asn rfl (.nil (.sn mx (.mv rfl (.nei rfl (.nil (.cb rfl h (fun _ h => ?_) fun _ h => ?_))))))))))))))))
 ·
  refine .sn mx (.mv rfl (.c (.assign .none (.const (x := ([] : (List DOp))) (fun M w => ⟨_, ⟨none, 0, rfl, Nat.le_refl _, by decide, rfl⟩, rfl⟩))) (.asn rfl (.nil (.ret (.thenRet ?_))))))
  obtain rfl := some_eq h
  exact Ends.ret2 (.inl rfl) Tryz.results16 (ResOK.tmp rfl trivial Imp.refl) (ResOK.tmp rfl trivial Imp.refl)
 ·
  refine .skip (.then (.seq (.sn mx (.mv rfl (.ln sl22 rfl (.c (.gt .none (.s rfl) .i) (.nil (.cb rfl h (fun _ h => ?_) fun _ h => ?_))))))))
  ·
   refine .sn mx (.c (.assign .none (.const (x := ([] : (List DOp))) (fun M w => ⟨_, ⟨none, 0, rfl, Nat.le_refl _, by decide, rfl⟩, rfl⟩))) (.asi (.nil (.ret (.thenRet ?_)))))
   obtain rfl := some_eq h
   exact Ends.ret2 (.inl rfl) Tryz.results16 (ResOK.tmp rfl trivial Imp.refl) (ResOK.tmp rfl trivial Imp.refl)
  ·
   obtain ⟨all1, hv4, h⟩ := bind_some h
   obtain ⟨r1, hv5, h⟩ := bind_some h
   refine .skip (.then (.sr [oo, oo, oo, ([], [21]), ([21], [7, 21])] mx (.mvA rfl (.mvA rfl (.cA (.buildSlice (xs := [_, _]) .none sl99 ty22 hz22 (.cons (.s rfl) (.cons (.s rfl) .nil)) rfl (by decide)) (.cW (.cO [] (slices_Concat_Op_ok hv4) (.cons (.s rfl) .nil) .nil rfl) (.cW (.passRow rfl (.tmp rfl)) (.nil (.nameRow (t := 7) (g := 5001) rfl rfl rfl (fun s5001 => (.sr [oo, ([5001], [5001])] mx (.mvA rfl (.cW (.cO [5001] (slices_SortStableFunc_Op_ok hv5) (.cons (.s rfl) (.cons (Opd.func (ι := DOp × DOp × Int) (pre := fun i => edit_order i.1 i.2.1 = some i.2.2) (Ss := fun i => [rep i.1, rep i.2.1]) (S := fun i => rep i.2.2) fnok30 (fun i h => edit_order_ok h)) .nil)) (.cons (k := 5001) rfl .nil) rfl) (.nil (.seq (.sn mx (.asi (.nil ?_))))))))))))))))))
   obtain ⟨o_6, h, hK6⟩ := bindR_some h
   refine .tJ (fun s => o_6 = Res.nx s) (.k 7 rfl .nil) (.k 5001 rfl .nil) ?_ (fun j_6 hj6 => ?_)
   ·
    refine .block (.loopL h (fun s7_ => [(8, ⟨True, rep s7_⟩)]) (fun s7_ => []) (.k 8 rfl .nil) SubB.nil (.k 7 rfl .nil) (.k 5001 rfl .nil) (fun s7_ o_7 h hD7 => ?_))
    unfold edit_Merge_L1 at h
    refine .seq (.sr [oo, oo, ([5001], []), oo] mx (.mvA rfl (.mvA rfl (.cA (.lenO (k := 5001) sl22 (.told (.s rfl) rfl)) (.cA (.lt .none (.s rfl) (.s rfl)) (.nil (.cb rfl h (fun _ h => ?_) fun _ h => ?_)))))))
    ·
     obtain ⟨hn9, h⟩ := need_some h
     obtain ⟨hn10, h⟩ := need_some h
     obtain ⟨r2, hv11, h⟩ := bind_some h
     obtain ⟨hn12, h⟩ := need_some h
     obtain ⟨hn13, h⟩ := need_some h
     refine .skip (.then (.seq (.block (.sr [oo, oo, oo, ([5001], []), ([5001], []), oo, oo, ([5001], []), ([5001], []), oo, oo, oo, oo, oo, oo, ([5001], []), ([5001], []), oo, oo, ([5001], []), ([5001], []), oo, oo] mx (.mvA rfl (.mvA rfl (.cA (.subW .none (.s rfl) .i) (.ixO 5001 sl22 ty42 rfl rfl rfl hn9 (.cA (.loadElem0 (k := 5001) .none ty42 (.s rfl) rfl (fun _ => hn9)) (.mvA rfl (.mvA rfl (.ixO 5001 sl22 ty42 rfl rfl rfl hn10 (.cA (.loadElem0 (k := 5001) .none ty42 (.s rfl) rfl (fun _ => hn10)) (.cA (.call .none (edit_order_ok hv11) (.cons (.s rfl) (.cons (.s rfl) .nil))) (.cA (.eqI .none (.s rfl) .i) (.mvA rfl (.cA (.move (.at rfl rfl) (.s rfl)) (.cA (.move (.at rfl rfl) (.s rfl)) (.cA (.subW (.at rfl rfl) (.tmp rfl id) .i) (.cA (.indexAddrO (k := 5001) (.at rfl rfl) sl22 ty42 (.tmp rfl id) rfl (.tmp rfl id) (fun hg => hn12 hg.2)) (.cA (.loadElem0 (k := 5001) (.at rfl rfl) ty42 (.tmp rfl id) rfl (fun hg => hn12 hg.2)) (.cA (.move (.at rfl rfl) (.s rfl)) (.cA (.move (.at rfl rfl) (.s rfl)) (.cA (.indexAddrO (k := 5001) (.at rfl rfl) sl22 ty42 (.tmp rfl id) rfl (.tmp rfl id) (fun hg => hn13 hg.2)) (.cA (.loadElem0 (k := 5001) (.at rfl rfl) ty42 (.tmp rfl id) rfl (fun hg => hn13 hg.2)) (.cA (.neS (.at rfl rfl) eqa42 (.tmp rfl id) (.tmp rfl id)) (.cA (.pickAnd .none (.s rfl) (.tmp rfl id)) (.nil (.cb rfl h (fun _ h => ?_) fun _ h => ?_)))))))))))))))))))))))))))))
     ·
      refine .sn mx (.c (.assign .none (.const (x := ([] : (List DOp))) (fun M w => ⟨_, ⟨none, 0, rfl, Nat.le_refl _, by decide, rfl⟩, rfl⟩))) (.asi (.nil (.ret (.blkRet (.thenRet (.thenRet (.blkRet (.thenRet ?_)))))))))
      replace h := hD7 _ (some_eq h)
      replace h := resb_ab hK6 (some_eq h)
      obtain rfl := some_eq h
      exact Ends.ret2 (.inl rfl) Tryz.results16 (ResOK.tmp rfl trivial Imp.refl) (ResOK.tmp rfl trivial Imp.refl)
     ·
      obtain ⟨i1, hv15, h⟩ := bnd_some h
      exact .skip (.blkNormal (.then (.rn mx (.mv rfl (.adi rfl (.ra hv15 rfl (.nil (Ends.ag (some_eq h)))))))))
    ·
     refine .exit (.thenExit (.thenExit (.blkExit ?_)))
     replace h := hD7 _ (some_eq h)
     exact Ends.j _ (some_eq h)
   ·
    have h := resb_nx hK6 hj6
    obtain ⟨all2, hv16, h⟩ := bind_some h
    obtain ⟨e2, hv17, h⟩ := bind_some h
    refine .sr [oo, ([5001], [5001]), oo] mx (.mvA rfl (.cW (.cO [5001] ((slices_Compact_Op_ok hv16).frzO1) (.cons (.s rfl) .nil) (.cons (k := 5001) rfl .nil) rfl) (.asnA rfl (.nil (.seq (.sn mx (.mv rfl (.c (.call .none (edit_Check_ok hv17) (.cons (.s rfl) .nil)) (.asn rfl (.nil (.sn mx (.mv rfl (.nei rfl (.nil (.cb rfl h (fun _ h => ?_) fun _ h => ?_)))))))))))))))
    ·
     refine .sn mx (.mv rfl (.c (.assign .none (.const (x := ([] : (List DOp))) (fun M w => ⟨_, ⟨none, 0, rfl, Nat.le_refl _, by decide, rfl⟩, rfl⟩))) (.asn rfl (.nil (.ret (.thenRet ?_))))))
     obtain rfl := some_eq h
     exact Ends.ret2 (.inl rfl) Tryz.results16 (ResOK.tmp rfl trivial Imp.refl) (ResOK.tmp rfl trivial Imp.refl)
    ·
     refine .skip (.then (.sn mx (.mv rfl (.asn rfl (.asi (.nil (.ret ?_)))))))
     obtain rfl := some_eq h
     exact Ends.ret2 (.inl rfl) Tryz.results16 (ResOK.tmp rfl trivial Imp.refl) (ResOK.tmp rfl trivial Imp.refl)

theorem slices_Equal_Op_ok {s1_1 : (List DOp)} {s2_1 : (List DOp)} {r : Bool}  (h : slices_Equal_Op s1_1 s2_1 = some r) : FSpec Tryz.prog 17 [rep s1_1, rep s2_1] (rep r) := by
 unfold slices_Equal_Op at h
 refine FSpec.i Tryz.func17 rfl Tryz.ntmps17 rfl (fun F => (.sn mx (.asb (.nil (.seq (.sn mx (.mv rfl (.ln sl22 rfl (.mv rfl (.ln sl22 rfl (.c (.neI .none (.s rfl) (.s rfl)) (.nil (.cb rfl h (fun _ h => ?_) fun _ h => ?_)))))))))))))
 ·
  refine .sn mx (.asb (.nil (.ret (.thenRet ?_))))
  obtain rfl := some_eq h
  exact Ends.rt Tryz.results17 rfl
 ·
  refine .skip (.then (.seq (.sn mx (.mv rfl (.ln sl22 rfl (.mvi (.nil ?_)))))))
  obtain ⟨o_2, h, hK2⟩ := bindR_some h
  refine .tJ (fun s => o_2 = Res.nx s) Sub.nil SubB.nil ?_ (fun j_2 hj2 => ?_)
  ·
   refine .block (.rforEL h (fun p3_ => [(13, ⟨True, rep p3_.1⟩)]) (fun p3_ => []) (.k 13 rfl .nil) SubB.nil (.k2 0 1 rfl rfl (.k 12 rfl .nil)) SubB.nil (fun p3_ o_3 h hD3 => (.sn mx (.lt rfl rfl (.nil (.seq (.cb rfl h (fun _ h => ?_) fun _ h => ?_)))))))
   ·
    refine .skip (.then (.seq ?_))
    obtain ⟨o_5, h, hK5⟩ := bindD_some h
    unfold slices_Equal_Op_L1 at h
    refine .tJ (fun s => o_5 = Res.nx s) (.k4 0 1 12 13 rfl rfl rfl rfl .nil) SubB.nil ?_ (fun j_5 hj5 => ?_)
    ·
     obtain ⟨hn6, h⟩ := need_some h
     obtain ⟨hn7, h⟩ := need_some h
     refine .block (.sn mx (.mv rfl (.asn rfl (.nil (.sn mx (.mv rfl (.mv rfl (.ix sl22 ty42 rfl rfl hn6 (.ld ty42 rfl (.mv rfl (.mv rfl (.ix sl22 ty42 rfl rfl hn7 (.ld ty42 rfl (.c (.neS .none eqa42 (.s rfl) (.s rfl)) (.nil (.cb rfl h (fun _ h => ?_) fun _ h => ?_))))))))))))))))
     ·
      refine .sn mx (.asb (.nil (.ret (.blkRet (.thenRet (.thenRet (.blkRet (.thenRet ?_))))))))
      replace h := resd_ab hK5 (some_eq h)
      replace h := hD3 _ (some_eq h)
      replace h := resb_ab hK2 (some_eq h)
      obtain rfl := some_eq h
      exact Ends.rt Tryz.results17 rfl
     ·
      exact .skip (.blkNormal (Ends.j _ (some_eq h)))
    ·
     have h := resd_nx hK5 hj5
     exact .rn mx (.adi rfl (.mv rfl (.nil (Ends.ag (some_eq h)))))
   ·
    refine .exit (.thenExit (.thenExit (.blkExit ?_)))
    replace h := hD3 _ (some_eq h)
    exact Ends.j _ (some_eq h)
  ·
   have h := resb_nx hK2 hj2
   refine .sn mx (.asb (.nil (.ret ?_)))
   obtain rfl := some_eq h
   exact Ends.rt Tryz.results17 rfl

theorem edit_Seen_ok {l1 : (List DOp)} {r : ((List Stamp) × Int)}  (h : edit_Seen l1 = some r) : FSpec Tryz.prog 18 [rep l1] (tup [rep r.1, rep r.2]) := by
 unfold edit_Seen at h
 obtain ⟨e1, hv1, h⟩ := bind_some h
 refine FSpec.i Tryz.func18 rfl Tryz.ntmps18 rfl (fun F => (.sn mx (.c (.assign .none (.const (x := ([] : (List Stamp))) (fun M w => ⟨_, ⟨none, 0, rfl, Nat.le_refl _, by decide, rfl⟩, rfl⟩))) (.asi (.nil (.seq (.sn mx (.mv rfl (.c (.call .none (edit_Check_ok hv1) (.cons (.s rfl) .nil)) (.asn rfl (.nil (.sn mx (.mv rfl (.nei rfl (.nil (.cb rfl h (fun _ h => ?_) fun _ h => ?_))))))))))))))))
 ·
  refine .sn mx (.mv rfl (.c (.assign .none (.const (x := ([] : (List Stamp))) (fun M w => ⟨_, ⟨none, 0, rfl, Nat.le_refl _, by decide, rfl⟩, rfl⟩))) (.asn rfl (.nil (.ret (.thenRet ?_))))))
  obtain rfl := some_eq h
  exact Ends.ret2 (.inl rfl) Tryz.results18 (ResOK.tmp rfl trivial Imp.refl) (ResOK.tmp rfl trivial Imp.refl)
 ·
  refine .skip (.then (.sr [([], [5])] mx (.cW (.nilRow (T := 40) (α := Stamp) rfl) (.nil (.nameRow (t := 5) (g := 5001) rfl rfl rfl (fun s5001 => (.seq (.sn mx (.mv rfl (.ln sl22 rfl (.mvi (.nil ?_))))))))))))
  obtain ⟨j_3, h, hK3⟩ := bind_some h
  refine .thenJ (ι := (List Stamp)) (fun j_3 => []) (fun j_3 => [(5, some (rowV 40 j_3))]) (fun s => j_3 = s) Sub.nil SubB.nil ?_ (fun j_3' hj3 => ?_)
  ·
   refine .block (.anon (t := 5) (g := 5001) rfl rfl trivial rfl (.rforL h (fun p4_ => [(15, ⟨True, rep p4_.1⟩)]) (fun p4_ => [(5, some (rowV 40 p4_.2))]) (.k 15 rfl .nil) (.k 5 rfl .nil) (.k2 0 13 rfl rfl (.k 14 rfl .nil)) SubB.nil (fun p4_ o_4 h hD4 => (.nameRow (t := 5) (g := 5002) rfl rfl rfl (fun s5002 => (.sn mx (.lt rfl rfl (.nil (.seq (.cb rfl h (fun _ h => ?_) fun _ h => ?_))))))))))
   ·
    refine .skip (.then (.seq ?_))
    obtain ⟨j_6, h, hK6⟩ := bind_some h
    unfold edit_Seen_L1 at h
    refine .thenJ (ι := (List Stamp)) (fun j_6 => []) (fun j_6 => [(5, some (rowV 40 j_6))]) (fun s => j_6 = s) (.k4 0 13 14 15 rfl rfl rfl rfl .nil) SubB.nil ?_ (fun j_6' hj6 => ?_)
    ·
     obtain ⟨hn7, h⟩ := need_some h
     obtain ⟨v1, hv8, h⟩ := bnd_some h
     obtain ⟨hn9, h⟩ := need_some h
     refine .block (.sr [oo, oo, oo, ([], [7]), oo, ([7], [7])] mx (.mvA rfl (.ixA sl22 ty42 rfl rfl hn7 (.rlA hv8 ty42 rfl (.al zo42 rfl (.asnA rfl (.st ty42 rfl rfl rfl (.nil (.freeze (t := 7) rfl rfl (.k 5002 rfl .nil) rfl (.sn mx (.mv rfl (.adi rfl (.mv rfl (.ln sl22 rfl (.c (.eqI .none (.s rfl) (.s rfl)) (.mv rfl (.mg rfl rfl rfl (.mg rfl rfl rfl (.c (.addW (.at rfl rfl) (.tmp rfl id) .i) (.c (.indexAddr (.at rfl rfl) sl22 ty42 (.tmp rfl id) (.tmp rfl id) (fun hg => hn9 hg.2)) (.c (.fieldAddr (.at rfl rfl) fd42_0 hfd42_0 (.tmp rfl id)) (.c (.fieldAddr (.at rfl rfl) fd40_1 hfd40_1 (.tmp rfl id)) (.lg ty9 rfl rfl rfl (.fg fd42_0 hfd42_0 rfl rfl rfl (.c (.fieldAddr (.at rfl rfl) fd40_1 hfd40_1 (.tmp rfl id)) (.lg ty9 rfl rfl rfl (.c (.neS (.at rfl rfl) (eqAt_str Tryz.underlying9) (.tmp rfl id) (.tmp rfl id)) (.po rfl rfl (.nil (.cb rfl h (fun _ h => ?_) fun _ h => ?_))))))))))))))))))))))))))))))
     ·
      obtain ⟨hn11, h⟩ := need_some h
      exact .rg [oo, oo, oo, oo, ([5002], [42, 5002]), ([42], [5, 42])] mx (.mvA rfl (.faA fd42_0 hfd42_0 rfl (.ldA ty40 rfl (.cA (.buildSlice (xs := [_]) .none sl46 ty40 hz40 (.cons (.s rfl) .nil) rfl (by decide)) (.cW (.append (k := 5002) rk46 rfl (.told (.s rfl) rfl) (.s rfl) hn11) (.cW (.passRow rfl (.tmp rfl)) (.nil (.blkNormal (Ends.j _ (some_eq h))))))))))
     ·
      exact .skip (.blkNormal (.anon (t := 5) (g := 5002) rfl rfl trivial rfl (Ends.j _ (some_eq h))))
    ·
     subst hj6; have h := hK6; clear hK6
     exact .nameRow (t := 5) (g := 5003) rfl rfl rfl (fun s5003 => (.rn mx (.adi rfl (.mv rfl (.nil (.anon (t := 5) (g := 5003) rfl rfl trivial rfl (Ends.ag (some_eq h))))))))
   ·
    refine .exit (.thenExit (.thenExit (.blkExit (.anon (t := 5) (g := 5002) rfl rfl trivial rfl ?_))))
    replace h := hD4 _ (some_eq h)
    exact Ends.j _ (some_eq h)
  ·
   subst hj3; have h := hK3; clear hK3
   refine .freezeRowA (t := 5) rfl rfl SubB.nil rfl (.sn mx (.mv rfl (.asn rfl (.asi (.nil (.ret ?_))))))
   obtain rfl := some_eq h
   exact Ends.ret2 (.inl rfl) Tryz.results18 (ResOK.tmp rfl trivial Imp.refl) (ResOK.tmp rfl trivial Imp.refl)

theorem edit_Since_ok {l1 : (List DOp)} {seen1 : (List Stamp)} {r : ((List DOp) × Int)}  (h : edit_Since l1 seen1 = some r) : FSpec Tryz.prog 19 [rep l1, rep seen1] (tup [rep r.1, rep r.2]) := by
 unfold edit_Since at h
 obtain ⟨e1, hv1, h⟩ := bind_some h
 refine FSpec.i Tryz.func19 rfl Tryz.ntmps19 rfl (fun F => (.sn mx (.c (.assign .none (.const (x := ([] : (List DOp))) (fun M w => ⟨_, ⟨none, 0, rfl, Nat.le_refl _, by decide, rfl⟩, rfl⟩))) (.asi (.nil (.seq (.sn mx (.mv rfl (.c (.call .none (edit_Check_ok hv1) (.cons (.s rfl) .nil)) (.asn rfl (.nil (.sn mx (.mv rfl (.nei rfl (.nil (.cb rfl h (fun _ h => ?_) fun _ h => ?_))))))))))))))))
 ·
  refine .sn mx (.mv rfl (.c (.assign .none (.const (x := ([] : (List DOp))) (fun M w => ⟨_, ⟨none, 0, rfl, Nat.le_refl _, by decide, rfl⟩, rfl⟩))) (.asn rfl (.nil (.ret (.thenRet ?_))))))
  obtain rfl := some_eq h
  exact Ends.ret2 (.inl rfl) Tryz.results19 (ResOK.tmp rfl trivial Imp.refl) (ResOK.tmp rfl trivial Imp.refl)
 ·
  obtain ⟨last1, hv3, h⟩ := bnd_some h
  refine .skip (.then (.sr [([], [18]), ([18], [7, 18])] mx (.cW (.makeMap (K := Str) (V := Int) rfl) (.cW (.passRow rfl (.tmp rfl)) (.nil (.reB (t := 7) rfl (congrArg mapV hv3) (.nameMap (t := 7) (g := 5001) rfl rfl rfl (fun s5001 => (.seq (.sn mx (.mv rfl (.ln sl46 rfl (.mvi (.nil ?_))))))))))))))
  obtain ⟨o_4, h, hK4⟩ := bindR_some h
  refine .thenJ (ι := (GMap Str Int)) (fun j_4 => []) (fun j_4 => [(5001, some (CPred.at s5001 (mapV j_4)))]) (fun s => o_4 = Res.nx s) (.k2 0 7 rfl rfl .nil) SubB.nil ?_ (fun j_4 hj4 => ?_)
  ·
   refine .block (.rforEL h (fun p5_ => [(21, ⟨True, rep p5_.1⟩)]) (fun p5_ => [(5001, some (CPred.at s5001 (mapV p5_.2)))]) (.k 21 rfl .nil) (.k 5001 rfl .nil) (.k4 0 1 7 19 rfl rfl rfl rfl (.k 20 rfl .nil)) SubB.nil (fun p5_ o_5 h hD5 => (.sn mx (.lt rfl rfl (.nil (.seq (.cb rfl h (fun _ h => ?_) fun _ h => ?_)))))))
   ·
    refine .skip (.then (.seq ?_))
    obtain ⟨o_7, h, hK7⟩ := bindD_some h
    unfold edit_Since_L1 at h
    refine .thenJ (ι := (GMap Str Int)) (fun j_7 => []) (fun j_7 => [(5001, some (CPred.at s5001 (mapV j_7)))]) (fun s => o_7 = Res.nx s) (.k4 0 1 7 19 rfl rfl rfl rfl (.k2 20 21 rfl rfl .nil)) SubB.nil ?_ (fun j_7 hj7 => ?_)
    ·
     obtain ⟨hn8, h⟩ := need_some h
     obtain ⟨v1, hv9, h⟩ := bnd_some h
     obtain ⟨r1, hv10, h⟩ := bind_some h
     refine .block (.sr [oo, oo, oo, ([], [9]), oo, ([9], [9])] mx (.mvA rfl (.ixA sl46 ty40 rfl rfl hn8 (.rlA hv9 ty40 rfl (.al zo40 rfl (.asnA rfl (.st ty40 rfl rfl rfl (.nil (.freeze (t := 9) rfl rfl (.k 5001 rfl .nil) rfl (.seq (.block (.sn mx (.fa fd40_1 hfd40_1 rfl (.ld ty9 rfl (.c (.call .none (edit_isName_ok hv10) (.cons (.s rfl) .nil)) (.c (.not .none (.s rfl)) (.asn rfl (.nil (.cb rfl h (fun _ h => ?_) fun _ h => ?_)))))))))))))))))))
     ·
      refine .sn mx (.c (.assign .none (.const (x := ([] : (List DOp))) (fun M w => ⟨_, ⟨none, 0, rfl, Nat.le_refl _, by decide, rfl⟩, rfl⟩))) (.asi (.nil (.ret (.blkRet (.thenRet (.blkRet (.thenRet (.thenRet (.blkRet (.thenRet ?_)))))))))))
      replace h := resd_ab hK7 (some_eq h)
      replace h := hD5 _ (some_eq h)
      replace h := resb_ab hK4 (some_eq h)
      obtain rfl := some_eq h
      exact Ends.ret2 (.inl rfl) Tryz.results19 (ResOK.tmp rfl trivial Imp.refl) (ResOK.tmp rfl trivial Imp.refl)
     ·
      obtain ⟨hn12, h⟩ := need_some h
      refine .sn mx (.mv rfl (.c (.gt .none (.s rfl) .i) (.mv rfl (.fg fd40_1 hfd40_1 rfl rfl rfl (.lg ty9 rfl rfl rfl (.mg rfl rfl rfl (.mg rfl rfl rfl (.c (.subW (.at rfl rfl) (.tmp rfl id) .i) (.c (.indexAddr (.at rfl rfl) sl46 ty40 (.tmp rfl id) (.tmp rfl id) (fun hg => hn12 hg.2)) (.c (.fieldAddr (.at rfl rfl) fd40_1 hfd40_1 (.tmp rfl id)) (.lg ty9 rfl rfl rfl (.c (.leStr (.at rfl rfl) (.tmp rfl id) (.tmp rfl id)) (.pa rfl rfl (.asn rfl (.nil (.cb rfl h (fun _ h => ?_) fun _ h => ?_))))))))))))))))
      ·
       refine .sn mx (.c (.assign .none (.const (x := ([] : (List DOp))) (fun M w => ⟨_, ⟨none, 0, rfl, Nat.le_refl _, by decide, rfl⟩, rfl⟩))) (.asi (.nil (.ret (.blkRet (.thenRet (.blkRet (.thenRet (.thenRet (.blkRet (.thenRet ?_)))))))))))
       replace h := resd_ab hK7 (some_eq h)
       replace h := hD5 _ (some_eq h)
       replace h := resb_ab hK4 (some_eq h)
       obtain rfl := some_eq h
       exact Ends.ret2 (.inl rfl) Tryz.results19 (ResOK.tmp rfl trivial Imp.refl) (ResOK.tmp rfl trivial Imp.refl)
      ·
       refine .sn mx (.fa fd40_2 hfd40_2 rfl (.ld ty3 rfl (.c (.lt .none (.s rfl) .i) (.asn rfl (.nil (.cb rfl h (fun _ h => ?_) fun _ h => ?_))))))
       ·
        refine .sn mx (.c (.assign .none (.const (x := ([] : (List DOp))) (fun M w => ⟨_, ⟨none, 0, rfl, Nat.le_refl _, by decide, rfl⟩, rfl⟩))) (.asi (.nil (.ret (.blkRet (.thenRet (.blkRet (.thenRet (.thenRet (.blkRet (.thenRet ?_)))))))))))
        replace h := resd_ab hK7 (some_eq h)
        replace h := hD5 _ (some_eq h)
        replace h := resb_ab hK4 (some_eq h)
        obtain rfl := some_eq h
        exact Ends.ret2 (.inl rfl) Tryz.results19 (ResOK.tmp rfl trivial Imp.refl) (ResOK.tmp rfl trivial Imp.refl)
       ·
        exact .skip (.blkNormal (.then (.rg [oo, oo, oo, oo, oo, ([5001], [5001])] mx (.mvA rfl (.faA fd40_1 hfd40_1 rfl (.ldA ty9 rfl (.faA fd40_2 hfd40_2 rfl (.ldA ty3 rfl (.cN (.mapUpdate (q := 5001) mo69 (.s rfl) rfl (.s rfl) (.s rfl)) (.nil (.blkNormal (Ends.j _ (some_eq h)))))))))))))
    ·
     have h := resd_nx hK7 hj7
     exact .rn mx (.adi rfl (.mv rfl (.nil (Ends.ag (some_eq h)))))
   ·
    refine .exit (.thenExit (.thenExit (.blkExit ?_)))
    replace h := hD5 _ (some_eq h)
    exact Ends.j _ (some_eq h)
  ·
   have h := resb_nx hK4 hj4
   refine .freezeAt (g := 5001) (S := rep j_4) (ts := [7]) rfl (.cons (t := 7) rfl trivial .nil) SubB.nil rfl (fun M D w h hms => mapV_rep h hms) (.sr [([], [10])] mx (.cW (.nilRow (T := 42) (α := DOp) rfl) (.nil (.nameRow (t := 10) (g := 5002) rfl rfl rfl (fun s5002 => (.seq (.sn mx (.mv rfl (.ln sl22 rfl (.mvi (.nil ?_)))))))))))
   obtain ⟨j_15, h, hK15⟩ := bind_some h
   refine .thenJ (ι := (List DOp)) (fun j_15 => []) (fun j_15 => [(10, some (rowV 42 j_15))]) (fun s => j_15 = s) Sub.nil SubB.nil ?_ (fun j_15' hj15 => ?_)
   ·
    refine .block (.anon (t := 10) (g := 5002) rfl rfl trivial rfl (.rforL h (fun p16_ => [(57, ⟨True, rep p16_.1⟩)]) (fun p16_ => [(10, some (rowV 42 p16_.2))]) (.k 57 rfl .nil) (.k 10 rfl .nil) (.k2 7 55 rfl rfl (.k 56 rfl .nil)) SubB.nil (fun p16_ o_16 h hD16 => (.nameRow (t := 10) (g := 5003) rfl rfl rfl (fun s5003 => (.sn mx (.lt rfl rfl (.nil (.seq (.cb rfl h (fun _ h => ?_) fun _ h => ?_))))))))))
    ·
     refine .skip (.then (.seq ?_))
     obtain ⟨j_18, h, hK18⟩ := bind_some h
     unfold edit_Since_L2 at h
     refine .thenJ (ι := (List DOp)) (fun j_18 => []) (fun j_18 => [(10, some (rowV 42 j_18))]) (fun s => j_18 = s) (.k4 7 55 56 57 rfl rfl rfl rfl .nil) SubB.nil ?_ (fun j_18' hj18 => ?_)
     ·
      obtain ⟨hn19, h⟩ := need_some h
      obtain ⟨v2, hv20, h⟩ := bnd_some h
      refine .block (.sr [oo, oo, ([], [12]), ([12], [12])] mx (.ixA sl22 ty42 rfl rfl hn19 (.rlA hv20 ty42 rfl (.al zo42 rfl (.st ty42 rfl rfl rfl (.nil (.freeze (t := 12) rfl rfl (.k 5003 rfl .nil) rfl (.sn mx (.fa fd42_0 hfd42_0 rfl (.fa fd40_2 hfd40_2 rfl (.ld ty3 rfl (.mv rfl (.fa fd42_0 hfd42_0 rfl (.fa fd40_1 hfd40_1 rfl (.ld ty9 rfl (.c (.lookup .none mo69 zo3 (.s rfl) (.s rfl)) (.c (.gt .none (.s rfl) (.s rfl)) (.nil (.cb rfl h (fun _ h => ?_) fun _ h => ?_)))))))))))))))))))
      ·
       obtain ⟨hn22, h⟩ := need_some h
       exact .rg [oo, oo, oo, ([5003], [73, 5003]), ([73], [10, 73])] mx (.mvA rfl (.ldA ty42 rfl (.cA (.buildSlice (xs := [_]) .none sl22 ty42 hz42 (.cons (.s rfl) .nil) rfl (by decide)) (.cW (.append (k := 5003) rk22 rfl (.told (.s rfl) rfl) (.s rfl) hn22) (.cW (.passRow rfl (.tmp rfl)) (.nil (.blkNormal (Ends.j _ (some_eq h)))))))))
      ·
       exact .skip (.blkNormal (.anon (t := 10) (g := 5003) rfl rfl trivial rfl (Ends.j _ (some_eq h))))
     ·
      subst hj18; have h := hK18; clear hK18
      exact .nameRow (t := 10) (g := 5004) rfl rfl rfl (fun s5004 => (.rn mx (.adi rfl (.mv rfl (.nil (.anon (t := 10) (g := 5004) rfl rfl trivial rfl (Ends.ag (some_eq h))))))))
    ·
     refine .exit (.thenExit (.thenExit (.blkExit (.anon (t := 10) (g := 5003) rfl rfl trivial rfl ?_))))
     replace h := hD16 _ (some_eq h)
     exact Ends.j _ (some_eq h)
   ·
    subst hj15; have h := hK15; clear hK15
    refine .freezeRowA (t := 10) rfl rfl SubB.nil rfl (.sn mx (.mv rfl (.asn rfl (.asi (.nil (.ret ?_))))))
    obtain rfl := some_eq h
    exact Ends.ret2 (.inl rfl) Tryz.results19 (ResOK.tmp rfl trivial Imp.refl) (ResOK.tmp rfl trivial Imp.refl)

theorem edit_Undo_1_ok {l1 : (List DOp)} {counts1 : (List Bool)} {c0_1 : Str} {r : Int}  (h : edit_Undo_1 l1 counts1 c0_1 = some r) : FSpec Tryz.prog 46 [rep l1, rep counts1, ref c0_1] (rep r) := by
 unfold edit_Undo_1 at h
 refine FSpec.i Tryz.func46 rfl Tryz.ntmps46 rfl (fun F => (.sn mx (.asi (.nil (.sn mx (.asi (.nil (.seq (.sn mx (.mv rfl (.ln sl22 rfl (.mvi (.nil ?_)))))))))))))
 obtain ⟨j_1, h, hK1⟩ := bind_some h
 refine .thenJ (ι := Int) (fun j_1 => [(6, ⟨True, rep j_1⟩)]) (fun j_1 => []) (fun s => j_1 = s) Sub.nil SubB.nil ?_ (fun j_1' hj1 => ?_)
 ·
  refine .block (.rforL h (fun p2_ => [(11, ⟨True, rep p2_.1⟩), (6, ⟨True, rep p2_.2⟩)]) (fun p2_ => []) (.k2 11 6 rfl rfl .nil) SubB.nil (.k4 1 2 9 10 rfl rfl rfl rfl .nil) SubB.nil (fun p2_ o_2 h hD2 => (.sn mx (.lt rfl rfl (.nil (.seq (.cb rfl h (fun _ h => ?_) fun _ h => ?_)))))))
  ·
   refine .skip (.then (.seq ?_))
   obtain ⟨j_4, h, hK4⟩ := bind_some h
   unfold edit_Undo_1_L1 at h
   refine .thenJ (ι := Int) (fun j_4 => [(6, ⟨True, rep j_4⟩)]) (fun j_4 => []) (fun s => j_4 = s) (.k4 1 2 9 10 rfl rfl rfl rfl (.k 11 rfl .nil)) SubB.nil ?_ (fun j_4' hj4 => ?_)
   ·
    obtain ⟨hn5, h⟩ := need_some h
    obtain ⟨v1, hv6, h⟩ := bnd_some h
    obtain ⟨hn7, h⟩ := need_some h
    refine .block (.sr [oo, oo, oo, ([], [8]), oo, ([8], [8])] mx (.mvA rfl (.ixA sl22 ty42 rfl rfl hn5 (.rlA hv6 ty42 rfl (.al zo42 rfl (.asnA rfl (.st ty42 rfl rfl rfl (.nil (.freeze (t := 8) rfl rfl SubB.nil rfl (.sn mx (.fa fd42_0 hfd42_0 rfl (.fa fd40_1 hfd40_1 rfl (.ld ty9 rfl (.ld ty9 rfl (.c (.eqS .none (eqAt_str Tryz.underlying9) (.s rfl) (.s rfl)) (.mv rfl (.mg rfl rfl rfl (.mg rfl rfl rfl (.c (.indexAddr (.at rfl rfl) sl25 ty4 (.tmp rfl id) (.tmp rfl id) (fun hg => hn7 hg.2)) (.lg ty4 rfl rfl rfl (.pa rfl rfl (.mv rfl (.fg fd42_1 hfd42_1 rfl rfl rfl (.lg ty3 rfl rfl rfl (.c (.neI (.at rfl rfl) (.tmp rfl id) .i) (.pa rfl rfl (.nil (.cb rfl h (fun _ h => ?_) fun _ h => ?_))))))))))))))))))))))))))))
    ·
     exact .rn mx (.mv rfl (.asn rfl (.nil (.blkNormal (Ends.j _ (some_eq h))))))
    ·
     exact .skip (.blkNormal (Ends.j _ (some_eq h)))
   ·
    subst hj4; have h := hK4; clear hK4
    exact .rn mx (.adi rfl (.mv rfl (.nil (Ends.ag (some_eq h)))))
  ·
   refine .exit (.thenExit (.thenExit (.blkExit ?_)))
   replace h := hD2 _ (some_eq h)
   exact Ends.j _ (some_eq h)
 ·
  subst hj1; have h := hK1; clear hK1
  refine .sn mx (.mv rfl (.asn rfl (.nil (.ret ?_))))
  obtain rfl := some_eq h
  exact Ends.rt Tryz.results46 rfl

theorem slices_BinarySearchFunc_Op_ok {x1 : (List DOp)} {target1 : DOp} {cmp1 : (DOp → DOp → Option Int)} {r : (Int × Bool)}  (h : slices_BinarySearchFunc_Op x1 target1 cmp1 = some r) : FSpec Tryz.prog 99 [rep x1, rep target1, fn2 Tryz.prog (rep (α := Int)) cmp1] (tup [rep r.1, rep r.2]) := by
 unfold slices_BinarySearchFunc_Op at h
 obtain ⟨n1, hv1, h⟩ := bnd_some h
 refine FSpec.i Tryz.func99 rfl Tryz.ntmps99 rfl (fun F => (.sn mx (.c (.box .none (.s rfl)) (.asi (.asb (.nil (.sn mx (.mv rfl (.ln sl22 rfl (.ra hv1 rfl (.nil (.sn mx (.mv rfl (.asi (.asn rfl (.nil (.seq ?_)))))))))))))))))
 obtain ⟨j_2, h, hK2⟩ := bind_some h
 refine .thenJ (ι := Int) (fun j_2 => [(9, ⟨True, rep j_2⟩)]) (fun j_2 => []) (fun s => j_2 = s) (.k4 0 2 4 8 rfl rfl rfl rfl .nil) SubB.nil ?_ (fun j_2' hj2 => ?_)
 ·
  refine .block (.loopL h (fun s3_ => [(9, ⟨True, rep s3_.1⟩), (10, ⟨True, rep s3_.2⟩)]) (fun s3_ => []) (.k2 9 10 rfl rfl .nil) SubB.nil (.k4 0 2 4 8 rfl rfl rfl rfl .nil) SubB.nil (fun s3_ o_3 h hD3 => ?_))
  unfold slices_BinarySearchFunc_Op_L1 at h
  refine .seq (.sn mx (.mv rfl (.mv rfl (.lt rfl rfl (.nil (.cb rfl h (fun _ h => ?_) fun _ h => ?_))))))
  ·
   obtain ⟨h1, hv5, h⟩ := bnd_some h
   obtain ⟨hn6, h⟩ := need_some h
   obtain ⟨r1, hv7, h⟩ := bind_some h
   refine .skip (.then (.block (.sn mx (.mv rfl (.mv rfl (.add rfl rfl (.c (.toK .none (by kernel_rfl) Tryz.underlying88 (.s rfl)) (.c (.kshr .none (.s rfl) .ki (fun _ => by decide)) (.c (.toInt .none (by kernel_rfl) Tryz.underlying3 (.s rfl)) (.ra hv5 rfl (.nil (.sn mx (.mv rfl (.mv rfl (.mv rfl (.ix sl22 ty42 rfl rfl hn6 (.ld ty42 rfl (.ld ty42 rfl (.c (.callV (gx x1 h1, target1, r1) .none (.s rfl) (fun _ => hv7) (.cons (.s rfl) (.cons (.s rfl) .nil))) (.c (.lt .none (.s rfl) .i) (.nil (.cb rfl h (fun _ h => ?_) fun _ h => ?_))))))))))))))))))))))
   ·
    obtain ⟨i1, hv9, h⟩ := bnd_some h
    exact .rn mx (.mv rfl (.adi rfl (.ra hv9 rfl (.nil (.blkNormal (Ends.ag (some_eq h)))))))
   ·
    exact .rn mx (.mv rfl (.asn rfl (.nil (.blkNormal (Ends.ag (some_eq h))))))
  ·
   refine .exit (.thenExit (.thenExit (.blkExit ?_)))
   replace h := hD3 _ (some_eq h)
   exact Ends.j _ (some_eq h)
 ·
  subst hj2; have h := hK2; clear hK2
  obtain ⟨hn10, h⟩ := need_some h
  obtain ⟨r2, hv11, h⟩ := bind_some h
  refine .sn mx (.mv rfl (.mv rfl (.mv rfl (.lt rfl rfl (.mv rfl (.mg rfl rfl rfl (.mg rfl rfl rfl (.mg rfl rfl rfl (.c (.indexAddr (.at rfl rfl) sl22 ty42 (.tmp rfl id) (.tmp rfl id) (fun hg => hn10 hg.2)) (.lg ty42 rfl rfl rfl (.c (.load (.at rfl rfl) ty42 (.s rfl)) (.c (.callV (gx x1 j_2, target1, r2) (.at rfl rfl) (.tmp rfl id) (fun hg => gd_some hv11 (hg.2)) (.cons (.tmp rfl id) (.cons (.tmp rfl id) .nil))) (.c (.eqI (.at rfl rfl) (.tmp rfl id) .i) (.pa rfl rfl (.asn rfl (.asn rfl (.nil (.ret ?_))))))))))))))))))
  obtain rfl := some_eq h
  exact Ends.ret2 (.inl rfl) Tryz.results99 (ResOK.tmp rfl trivial Imp.refl) (ResOK.tmp rfl trivial Imp.refl)

theorem slices_Clone_Op_ok {s1 : (List DOp)} {r : (List DOp)}  (h : slices_Clone_Op s1 = some r) : FSpecO Tryz.prog 101 [rep s1] [] (anyV) [some (rowV 42 r)] := by
 unfold slices_Clone_Op at h
 refine FSpecO.i Tryz.func101 rfl Tryz.ntmps101 rfl (fun F => (.sn mx (.c (.assign .none (.const (x := ([] : (List DOp))) (fun M w => ⟨_, ⟨none, 0, rfl, Nat.le_refl _, by decide, rfl⟩, rfl⟩))) (.nil (.seq (.sn mx (.mv rfl (.c (.eqNil .none sl22 (.s rfl)) (.nil (.condNil (t := 4) rfl trivial (fun hb1 => ?_) ?_))))))))))
 ·
  replace h := nilc_t h hb1
  refine .sr [([], [2])] mx (.cW (.nilRow (T := 42) (α := DOp) rfl) (.nil (.nameRow (t := 2) (g := 5001) rfl rfl rfl (fun s5001 => (.ret (.thenRet (.anon (t := 2) (g := 5001) rfl rfl trivial rfl ?_)))))))
  obtain rfl := some_eq h
  exact Ends.ret1O (.inl rfl) [2] Tryz.results101 (by decide) (.res rfl rfl) (ResOK.tmp rfl trivial (fun _ _ _ _ => trivial))
 ·
  replace h := nilc_f h
  obtain ⟨hn2, h⟩ := need_some h
  obtain ⟨v1, hv3, h⟩ := bnd_some h
  refine .skip (.then (.sr [([], [5]), oo, ([5], [7, 5]), ([7], [2, 7])] mx (.cW (.buildSliceO (xs := []) rfl sl22 ty42 hz42 .nil rfl (by decide)) (.mvA rfl (.cW (.append (k := 5) rk22 rfl (.tmp rfl) (.s rfl) hn2) (.cW (.passRow rfl (.tmp rfl)) (.nil (.reB (t := 2) rfl (congrArg (rowV 42) hv3) (.nameRow (t := 2) (g := 5002) rfl rfl rfl (fun s5002 => (.ret (.anon (t := 2) (g := 5002) rfl rfl trivial rfl ?_))))))))))))
  obtain rfl := some_eq h
  exact Ends.ret1O (.inl rfl) [2] Tryz.results101 (by decide) (.res rfl rfl) (ResOK.tmp rfl trivial (fun _ _ _ _ => trivial))

theorem edit_further_ok {l1 : (List DOp)} {x1 : DOp} {r : ((List DOp) × Int)}  (h : edit_further l1 x1 = some r) : FSpecO Tryz.prog 69 [rep l1, rep x1] [] (tup [anyV, rep r.2]) [some (tupC (rowV 42 r.1))] := by
 unfold edit_further at h
 refine FSpecO.i Tryz.func69 rfl Tryz.ntmps69 rfl (fun F => (.sr [([], [3]), oo, oo] mx (.cW (.boxO rfl (.s rfl)) (.cA (.assign .none (.const (x := ([] : (List DOp))) (fun M w => ⟨_, ⟨none, 0, rfl, Nat.le_refl _, by decide, rfl⟩, rfl⟩))) (.cA (.assign .none .i) (.nil (.nameBox (t := 3) (g := 5001) rfl rfl (fun m5001 => (.seq (.sn mx (.mv rfl (.ln sl22 rfl (.c (.ge .none (.s rfl) .i) (.nil (.cb rfl h (fun _ h => ?_) fun _ h => ?_)))))))))))))))
 ·
  refine .sr [([], [4]), oo] mx (.cW (.nilRow (T := 42) (α := DOp) rfl) (.cA (.assign .none .i) (.nil (.nameRow (t := 4) (g := 5002) rfl rfl rfl (fun s5002 => (.ret (.thenRet (.anon (t := 4) (g := 5002) rfl rfl trivial rfl ?_))))))))
  obtain rfl := some_eq h
  exact Ends.ret2T (.inl rfl) Tryz.results69 rfl (ResOK.tmp rfl trivial (fun _ _ _ _ => trivial)) (ResOK.tmp rfl trivial Imp.refl)
 ·
  obtain ⟨c1, hv2, h⟩ := bnd_some h
  refine .skip (.then (.sr [oo, oo, ([5001], [5001])] mx (.cA (.fieldPtr .none fd42_0 (.s rfl)) (.cA (.fieldPtr .none fd40_2 (.s rfl)) (.cN (.storeAt (g := 5001) ty3 rfl (.s rfl) (SetField.comp (o2 := 2) hfd42_0 sf42_0 sf40_2) .i) (.nil (.reB (t := 5001) rfl (congrArg (fun y => boxAt m5001 42 y) hv2) (.seq (.sn mx (.mv rfl (.ln sl22 rfl (.mvi (.nil ?_)))))))))))))
  obtain ⟨j_3, h, hK3⟩ := bind_some h
  refine .thenJ (ι := DOp) (fun j_3 => []) (fun j_3 => [(5001, some (boxAt m5001 42 j_3))]) (fun s => j_3 = s) (.k2 0 3 rfl rfl .nil) SubB.nil ?_ (fun j_3' hj3 => ?_)
  ·
   refine .block (.rforL h (fun p4_ => [(17, ⟨True, rep p4_.1⟩)]) (fun p4_ => [(5001, some (boxAt m5001 42 p4_.2))]) (.k 17 rfl .nil) (.k 5001 rfl .nil) (.k4 0 3 15 16 rfl rfl rfl rfl .nil) SubB.nil (fun p4_ o_4 h hD4 => (.sn mx (.lt rfl rfl (.nil (.seq (.cb rfl h (fun _ h => ?_) fun _ h => ?_)))))))
   ·
    refine .skip (.then (.seq ?_))
    obtain ⟨j_6, h, hK6⟩ := bind_some h
    unfold edit_further_L1 at h
    refine .thenJ (ι := DOp) (fun j_6 => []) (fun j_6 => [(5001, some (boxAt m5001 42 j_6))]) (fun s => j_6 = s) (.k4 0 3 15 16 rfl rfl rfl rfl (.k 17 rfl .nil)) SubB.nil ?_ (fun j_6' hj6 => ?_)
    ·
     obtain ⟨hn7, h⟩ := need_some h
     obtain ⟨v1, hv8, h⟩ := bnd_some h
     obtain ⟨v2, hv9, h⟩ := bnd_some h
     obtain ⟨c2, hv10, h⟩ := bnd_some h
     refine .block (.sr [oo, oo, ([], [7]), ([7], [7])] mx (.ixA sl22 ty42 rfl rfl hn7 (.rlA hv8 ty42 rfl (.al zo42 rfl (.st ty42 rfl rfl rfl (.nil (.freeze (t := 7) rfl rfl (.k 5001 rfl .nil) rfl (.sr [oo, oo, ([5001], []), oo, oo, oo, oo, oo, oo, ([5001], [5001])] mx (.cA (.fieldPtr .none fd42_0 (.s rfl)) (.cA (.fieldPtr .none fd40_0 (.s rfl)) (.cA (.loadAt (k := 5001) .none ty3 rfl (.s rfl) (HasField.comp (o2 := 0) hfd42_0 hfd40_0)) (.faA fd42_0 hfd42_0 rfl (.faA fd40_0 hfd40_0 rfl (.ldA ty3 rfl (.cA (.re hv9 (.max2 .none (.s rfl) (.s rfl))) (.cA (.fieldPtr .none fd42_0 (.s rfl)) (.cA (.fieldPtr .none fd40_0 (.s rfl)) (.cN (.storeAt (g := 5001) ty3 rfl (.s rfl) (SetField.comp (o2 := 0) hfd42_0 sf42_0 sf40_0) (.s rfl)) (.nil (.reB (t := 5001) rfl (congrArg (fun y => boxAt m5001 42 y) hv10) (.sr [oo, oo, oo, oo, oo, ([5001], []), oo] mx (.faA fd42_0 hfd42_0 rfl (.faA fd40_1 hfd40_1 rfl (.ldA ty9 rfl (.cA (.fieldPtr .none fd42_0 (.s rfl)) (.cA (.fieldPtr .none fd40_1 (.s rfl)) (.cA (.loadAt (k := 5001) .none ty9 rfl (.s rfl) (HasField.comp (o2 := 1) hfd42_0 hfd40_1)) (.cA (.eqS .none (eqAt_str Tryz.underlying9) (.s rfl) (.s rfl)) (.nil (.cb rfl h (fun _ h => ?_) fun _ h => ?_))))))))))))))))))))))))))))))
     ·
      obtain ⟨v3, hv12, h⟩ := bnd_some h
      exact .rg [oo, oo, oo, oo, oo, oo, ([5001], [5001])] mx (.faA fd42_0 hfd42_0 rfl (.faA fd40_2 hfd40_2 rfl (.ldA ty3 rfl (.cA (.re hv12 (.addW .none (.s rfl) .i)) (.cA (.fieldPtr .none fd42_0 (.s rfl)) (.cA (.fieldPtr .none fd40_2 (.s rfl)) (.cN (.storeAt (g := 5001) ty3 rfl (.s rfl) (SetField.comp (o2 := 2) hfd42_0 sf42_0 sf40_2) (.s rfl)) (.nil (.blkNormal (Ends.j _ (some_eq h)))))))))))
     ·
      exact .skip (.blkNormal (Ends.j _ (some_eq h)))
    ·
     subst hj6; have h := hK6; clear hK6
     exact .rn mx (.adi rfl (.mv rfl (.nil (Ends.ag (some_eq h)))))
   ·
    refine .exit (.thenExit (.thenExit (.blkExit ?_)))
    replace h := hD4 _ (some_eq h)
    exact Ends.j _ (some_eq h)
  ·
   subst hj3; have h := hK3; clear hK3
   obtain ⟨v4, hv13, h⟩ := bnd_some h
   refine .seq (.sr [oo, oo, ([5001], []), oo, oo, oo, ([5001], [5001])] mx (.cA (.fieldPtr .none fd42_0 (.s rfl)) (.cA (.fieldPtr .none fd40_0 (.s rfl)) (.cA (.loadAt (k := 5001) .none ty3 rfl (.s rfl) (HasField.comp (o2 := 0) hfd42_0 hfd40_0)) (.cA (.re hv13 (.addW .none (.s rfl) .i)) (.cA (.fieldPtr .none fd42_0 (.s rfl)) (.cA (.fieldPtr .none fd40_0 (.s rfl)) (.cN (.storeAt (g := 5001) ty3 rfl (.s rfl) (SetField.comp (o2 := 0) hfd42_0 sf42_0 sf40_0) (.s rfl)) (.nil (.fb 5001 [3] rfl (.cons (t := 3) rfl trivial .nil) (.sn mx (.fa fd42_0 hfd42_0 rfl (.fa fd40_0 hfd40_0 rfl (.ld ty3 rfl (.c (.gt .none (.s rfl) .i) (.nil (.cb rfl h (fun _ h => ?_) fun _ h => ?_)))))))))))))))))
   ·
    refine .sr [([], [4]), oo] mx (.cW (.nilRow (T := 42) (α := DOp) rfl) (.cA (.assign .none .i) (.nil (.nameRow (t := 4) (g := 5003) rfl rfl rfl (fun s5003 => (.ret (.thenRet (.anon (t := 4) (g := 5003) rfl rfl trivial rfl ?_))))))))
    obtain rfl := some_eq h
    exact Ends.ret2T (.inl rfl) Tryz.results69 rfl (ResOK.tmp rfl trivial (fun _ _ _ _ => trivial)) (ResOK.tmp rfl trivial Imp.refl)
   ·
    obtain ⟨r1, hv15, h⟩ := bind_some h
    refine .skip (.then (.sn mx (.mv rfl (.ld ty42 rfl (.c (.call .none (slices_BinarySearchFunc_Op_ok hv15) (.cons (.s rfl) (.cons (.s rfl) (.cons (Opd.func (ι := DOp × DOp × Int) (pre := fun i => edit_order i.1 i.2.1 = some i.2.2) (Ss := fun i => [rep i.1, rep i.2.1]) (S := fun i => rep i.2.2) fnok30 (fun i h => edit_order_ok h)) .nil)))) ?_)))))
    obtain ⟨r2, hv16, h⟩ := bind_some h
    obtain ⟨r3, hv17, h⟩ := bind_some h
    refine .mv rfl (.ex rfl rfl (.ex rfl rfl (.asn rfl (.asn rfl (.nil (.sr [oo, ([], [61]), oo, oo, ([], [64]), ([61, 64], [61, 64, 65]), ([65], [4, 65]), oo] mx (.mvA rfl (.cW (.cO [] (slices_Clone_Op_ok hv16) (.cons (.s rfl) .nil) .nil rfl) (.mvA rfl (.ldA ty42 rfl (.cW (.buildSliceO (xs := [_]) rfl sl22 ty42 hz42 (.cons (.s rfl) .nil) rfl (by decide)) (.cW (.tell (t := 64) rfl row_one rfl (by decide) (fun _ => StepOK.tell (t := 61) rfl row_one rfl (by decide) (fun _ => StepOK.callO [61, 64] (slices_Insert_Op_ok hv17) (.cons (.s rfl) (.cons (.s rfl) (.cons (.s rfl) .nil))) (.cons (k := 61) rfl (.cons (k := 64) rfl .nil)) rfl (by decide) (by decide) (by intro d h; cases h; decide)))) (.cW (.passRow rfl (.tmp rfl)) (.cA (.assign .none .i) (.nil (.nameRow (t := 4) (g := 5004) rfl rfl rfl (fun s5004 => (.ret (.anon (t := 4) (g := 5004) rfl rfl trivial rfl ?_)))))))))))))))))))
    obtain rfl := some_eq h
    exact Ends.ret2T (.inl rfl) Tryz.results69 rfl (ResOK.tmp rfl trivial (fun _ _ _ _ => trivial)) (ResOK.tmp rfl trivial Imp.refl)

theorem edit_counting_ok {l1 : (List DOp)} {r : (List Bool)}  (h : edit_counting l1 = some r) : FSpec Tryz.prog 32 [rep l1] (rep r) := by
 unfold edit_counting at h
 obtain ⟨v1, hv1, h⟩ := bnd_some h
 obtain ⟨hn2, h⟩ := need_some h
 obtain ⟨out1, hv3, h⟩ := bnd_some h
 refine FSpec.i Tryz.func32 rfl Tryz.ntmps32 rfl (fun F => (.sn mx (.c (.assign .none (.const (x := ([] : (List Bool))) (fun M w => ⟨_, ⟨none, 0, rfl, Nat.le_refl _, by decide, rfl⟩, rfl⟩))) (.nil (.sr [oo, oo, ([], [9]), ([9], [3, 9])] mx (.mvA rfl (.cA (.re hv1 (.len .none sl22 (.s rfl))) (.cW (.makeSlice rk25 zo4 rfl (.s rfl) (.s rfl) hn2) (.cW (.passRow rfl (.tmp rfl)) (.nil (.reB (t := 3) rfl (congrArg (rowV 4) hv3) (.nameRow (t := 3) (g := 5001) rfl rfl rfl (fun s5001 => (.seq (.sr [oo, ([5001], []), oo] mx (.mvA rfl (.cA (.lenO (k := 5001) sl25 (.told (.s rfl) rfl)) (.cA (.move .none .i) (.nil ?_)))))))))))))))))))
 obtain ⟨j_4, h, hK4⟩ := bind_some h
 refine .thenJ (ι := (List Bool)) (fun j_4 => []) (fun j_4 => [(5001, some (CPred.at s5001 (rowV 4 j_4)))]) (fun s => j_4 = s) (.k2 0 3 rfl rfl .nil) SubB.nil ?_ (fun j_4' hj4 => ?_)
 ·
  refine .block (.rforL h (fun p5_ => [(12, ⟨True, rep p5_.1⟩)]) (fun p5_ => [(5001, some (CPred.at s5001 (rowV 4 p5_.2)))]) (.k 12 rfl .nil) (.k 5001 rfl .nil) (.k2 0 3 rfl rfl (.k 11 rfl .nil)) SubB.nil (fun p5_ o_5 h hD5 => (.sn mx (.lt rfl rfl (.nil (.seq (.cb rfl h (fun _ h => ?_) fun _ h => ?_)))))))
  ·
   refine .skip (.then (.seq ?_))
   obtain ⟨j_7, h, hK7⟩ := bind_some h
   unfold edit_counting_L1 at h
   refine .thenJ (ι := (List Bool)) (fun j_7 => []) (fun j_7 => [(5001, some (CPred.at s5001 (rowV 4 j_7)))]) (fun s => j_7 = s) (.k4 0 3 11 12 rfl rfl rfl rfl .nil) SubB.nil ?_ (fun j_7' hj7 => ?_)
   ·
    obtain ⟨hn8, h⟩ := need_some h
    exact .block (.sn mx (.mv rfl (.asn rfl (.nil (.rg [oo, oo, ([5001], []), ([5001], [5001])] mx (.mvA rfl (.mvA rfl (.ixO 5001 sl25 ty4 rfl rfl rfl hn8 (.cN (.storeElem0 (k := 5001) ty4 (.s rfl) rfl .bool hn8) (.nil (.blkNormal (Ends.j _ (some_eq h)))))))))))))
   ·
    subst hj7; have h := hK7; clear hK7
    exact .rn mx (.adi rfl (.mv rfl (.nil (Ends.ag (some_eq h)))))
  ·
   refine .exit (.thenExit (.thenExit (.blkExit ?_)))
   replace h := hD5 _ (some_eq h)
   exact Ends.j _ (some_eq h)
 ·
  subst hj4; have h := hK4; clear hK4
  obtain ⟨i1, hv9, h⟩ := bnd_some h
  refine .seq (.sn mx (.mv rfl (.ln sl22 rfl (.c (.subW .none (.s rfl) .i) (.ra hv9 rfl (.nil ?_))))))
  obtain ⟨j_10, h, hK10⟩ := bind_some h
  refine .thenJ (ι := (List Bool)) (fun j_10 => []) (fun j_10 => [(5001, some (CPred.at s5001 (rowV 4 j_10)))]) (fun s => j_10 = s) (.k 3 rfl .nil) SubB.nil ?_ (fun j_10' hj10 => ?_)
  ·
   refine .block (.loopL h (fun s11_ => [(5, ⟨True, rep s11_.1⟩)]) (fun s11_ => [(5001, some (CPred.at s5001 (rowV 4 s11_.2)))]) (.k 5 rfl .nil) (.k 5001 rfl .nil) (.k2 0 3 rfl rfl .nil) SubB.nil (fun s11_ o_11 h hD11 => ?_))
   unfold edit_counting_L2 at h
   refine .seq (.sn mx (.mv rfl (.c (.ge .none (.s rfl) .i) (.nil (.cb rfl h (fun _ h => ?_) fun _ h => ?_)))))
   ·
    refine .skip (.then (.seq ?_))
    obtain ⟨j_13, h, hK13⟩ := bind_some h
    refine .thenJ (ι := (List Bool)) (fun j_13 => []) (fun j_13 => [(5001, some (CPred.at s5001 (rowV 4 j_13)))]) (fun s => j_13 = s) (.k2 0 3 rfl rfl (.k 5 rfl .nil)) SubB.nil ?_ (fun j_13' hj13 => ?_)
    ·
     obtain ⟨hn14, h⟩ := need_some h
     obtain ⟨v2, hv15, h⟩ := bnd_some h
     obtain ⟨hn16, h⟩ := need_some h
     refine .block (.sr [oo, oo, oo, oo, ([], [6]), ([6], [6])] mx (.mvA rfl (.mvA rfl (.ixA sl22 ty42 rfl rfl hn14 (.rlA hv15 ty42 rfl (.al zo42 rfl (.st ty42 rfl rfl rfl (.nil (.freeze (t := 6) rfl rfl (.k 5001 rfl .nil) rfl (.sr [oo, oo, oo, oo, oo, oo, ([5001], []), ([5001], []), oo] mx (.faA fd42_1 hfd42_1 rfl (.ldA ty3 rfl (.cA (.eqI .none (.s rfl) .i) (.mvA rfl (.cA (.move (.at rfl rfl) (.s rfl)) (.cA (.move (.at rfl rfl) (.s rfl)) (.cA (.indexAddrO (k := 5001) (.at rfl rfl) sl25 ty4 (.tmp rfl id) rfl (.tmp rfl id) (fun hg => hn16 hg.2)) (.cA (.loadElem0 (k := 5001) (.at rfl rfl) ty4 (.tmp rfl id) rfl (fun hg => hn16 hg.2)) (.cA (.pickAnd .none (.s rfl) (.tmp rfl id)) (.nil (.cb rfl h (fun _ h => ?_) fun _ h => ?_)))))))))))))))))))))
     ·
      obtain ⟨hn18, h⟩ := need_some h
      exact .rg [oo, oo, oo, oo, oo, oo, oo, oo, oo, ([5001], []), ([5001], [5001])] mx (.mvA rfl (.mvA rfl (.faA fd42_0 hfd42_0 rfl (.faA fd40_2 hfd40_2 rfl (.ldA ty3 rfl (.subA rfl rfl (.faA fd42_5 hfd42_5 rfl (.ldA ty3 rfl (.addA rfl rfl (.ixO 5001 sl25 ty4 rfl rfl rfl hn18 (.cN (.storeElem0 (k := 5001) ty4 (.s rfl) rfl .bool hn18) (.nil (.blkNormal (Ends.j _ (some_eq h)))))))))))))))
     ·
      exact .skip (.blkNormal (Ends.j _ (some_eq h)))
    ·
     subst hj13; have h := hK13; clear hK13
     obtain ⟨i2, hv19, h⟩ := bnd_some h
     exact .rn mx (.mv rfl (.c (.subW .none (.s rfl) .i) (.ra hv19 rfl (.nil (Ends.ag (some_eq h))))))
   ·
    refine .exit (.thenExit (.thenExit (.blkExit ?_)))
    replace h := hD11 _ (some_eq h)
    exact Ends.j _ (some_eq h)
  ·
   subst hj10; have h := hK10; clear hK10
   refine .freezeRow (g := 5001) (ts := [3]) rfl (.cons (t := 3) rfl trivial .nil) SubB.nil rfl (.sn mx (.mv rfl (.asn rfl (.nil (.ret ?_)))))
   obtain rfl := some_eq h
   exact Ends.rt Tryz.results32 rfl

theorem edit_undone_1_ok {x1 : DOp} {c0_1 : Str} {r : Bool}  (h : edit_undone_1 x1 c0_1 = some r) : FSpec Tryz.prog 71 [rep x1, ref c0_1] (rep r) := by
 unfold edit_undone_1 at h
 refine FSpec.i Tryz.func71 rfl Tryz.ntmps71 rfl (fun F => (.sn mx (.c (.box .none (.s rfl)) (.asb (.nil (.sn mx (.fa fd42_0 hfd42_0 rfl (.fa fd40_1 hfd40_1 rfl (.ld ty9 rfl (.ld ty9 rfl (.c (.eqS .none (eqAt_str Tryz.underlying9) (.s rfl) (.s rfl)) (.mv rfl (.fg fd42_1 hfd42_1 rfl rfl rfl (.lg ty3 rfl rfl rfl (.c (.eqI (.at rfl rfl) (.tmp rfl id) .i) (.pa rfl rfl (.mv rfl (.fg fd42_5 hfd42_5 rfl rfl rfl (.lg ty3 rfl rfl rfl (.c (.eqI (.at rfl rfl) (.tmp rfl id) .i) (.pa rfl rfl (.asn rfl (.nil (.ret ?_))))))))))))))))))))))))
 obtain rfl := some_eq h
 exact Ends.rt Tryz.results71 rfl

theorem slices_IndexFunc_Op_ok {s1 : (List DOp)} {f1 : (DOp → Option Bool)} {r : Int}  (h : slices_IndexFunc_Op s1 f1 = some r) : FSpec Tryz.prog 70 [rep s1, fn1 Tryz.prog (rep (α := Bool)) f1] (rep r) := by
 unfold slices_IndexFunc_Op at h
 refine FSpec.i Tryz.func70 rfl Tryz.ntmps70 rfl (fun F => (.sn mx (.asi (.nil (.seq (.sn mx (.mv rfl (.ln sl22 rfl (.mvi (.nil ?_))))))))))
 obtain ⟨o_1, h, hK1⟩ := bindR_some h
 refine .tJ (fun s => o_1 = Res.nx s) Sub.nil SubB.nil ?_ (fun j_1 hj1 => ?_)
 ·
  refine .block (.rforEL h (fun p2_ => [(8, ⟨True, rep p2_.1⟩)]) (fun p2_ => []) (.k 8 rfl .nil) SubB.nil (.k2 0 1 rfl rfl (.k 7 rfl .nil)) SubB.nil (fun p2_ o_2 h hD2 => (.sn mx (.lt rfl rfl (.nil (.seq (.cb rfl h (fun _ h => ?_) fun _ h => ?_)))))))
  ·
   refine .skip (.then (.seq ?_))
   obtain ⟨o_4, h, hK4⟩ := bindD_some h
   unfold slices_IndexFunc_Op_L1 at h
   refine .tJ (fun s => o_4 = Res.nx s) (.k4 0 1 7 8 rfl rfl rfl rfl .nil) SubB.nil ?_ (fun j_4 hj4 => ?_)
   ·
    obtain ⟨hn5, h⟩ := need_some h
    obtain ⟨r1, hv6, h⟩ := bind_some h
    refine .block (.sn mx (.mv rfl (.asn rfl (.nil (.sn mx (.mv rfl (.mv rfl (.mv rfl (.ix sl22 ty42 rfl rfl hn5 (.ld ty42 rfl (.c (.callV (gx s1 p2_.1, r1) .none (.s rfl) (fun _ => hv6) (.cons (.s rfl) .nil)) (.nil (.cb rfl h (fun _ h => ?_) fun _ h => ?_)))))))))))))
    ·
     refine .sn mx (.mv rfl (.asn rfl (.nil (.ret (.blkRet (.thenRet (.thenRet (.blkRet (.thenRet ?_)))))))))
     replace h := resd_ab hK4 (some_eq h)
     replace h := hD2 _ (some_eq h)
     replace h := resb_ab hK1 (some_eq h)
     obtain rfl := some_eq h
     exact Ends.rt Tryz.results70 rfl
    ·
     exact .skip (.blkNormal (Ends.j _ (some_eq h)))
   ·
    have h := resd_nx hK4 hj4
    exact .rn mx (.adi rfl (.mv rfl (.nil (Ends.ag (some_eq h)))))
  ·
   refine .exit (.thenExit (.thenExit (.blkExit ?_)))
   replace h := hD2 _ (some_eq h)
   exact Ends.j _ (some_eq h)
 ·
  have h := resb_nx hK1 hj1
  refine .sn mx (.asi (.nil (.ret ?_)))
  obtain rfl := some_eq h
  exact Ends.rt Tryz.results70 rfl

theorem edit_undone_ok {l1 : (List DOp)} {site1 : Str} {find1 : ((List DOp) → (List Bool) → Option Int)} {r : ((List DOp) × Int)}  (h : edit_undone l1 site1 find1 = some r) : FSpec Tryz.prog 45 [rep l1, rep site1, fn2 Tryz.prog (rep (α := Int)) find1] (tup [rep r.1, rep r.2]) := by
 unfold edit_undone at h
 obtain ⟨e1, hv1, h⟩ := bind_some h
 refine FSpec.i Tryz.func45 rfl Tryz.ntmps45 rfl (fun F => (.sn mx (.c (.box .none (.s rfl)) (.c (.assign .none (.const (x := ([] : (List DOp))) (fun M w => ⟨_, ⟨none, 0, rfl, Nat.le_refl _, by decide, rfl⟩, rfl⟩))) (.asi (.nil (.seq (.sn mx (.mv rfl (.c (.call .none (edit_Check_ok hv1) (.cons (.s rfl) .nil)) (.asn rfl (.nil (.sn mx (.mv rfl (.nei rfl (.nil (.cb rfl h (fun _ h => ?_) fun _ h => ?_)))))))))))))))))
 ·
  refine .sn mx (.mv rfl (.c (.assign .none (.const (x := ([] : (List DOp))) (fun M w => ⟨_, ⟨none, 0, rfl, Nat.le_refl _, by decide, rfl⟩, rfl⟩))) (.asn rfl (.nil (.ret (.thenRet ?_))))))
  obtain rfl := some_eq h
  exact Ends.ret2 (.inl rfl) Tryz.results45 (ResOK.tmp rfl trivial Imp.refl) (ResOK.tmp rfl trivial Imp.refl)
 ·
  obtain ⟨r1, hv3, h⟩ := bind_some h
  refine .skip (.then (.seq (.sn mx (.ld ty9 rfl (.c (.call .none (edit_isName_ok hv3) (.cons (.s rfl) .nil)) (.c (.not .none (.s rfl)) (.nil (.cb rfl h (fun _ h => ?_) fun _ h => ?_))))))))
  ·
   refine .sn mx (.c (.assign .none (.const (x := ([] : (List DOp))) (fun M w => ⟨_, ⟨none, 0, rfl, Nat.le_refl _, by decide, rfl⟩, rfl⟩))) (.asi (.nil (.ret (.thenRet ?_)))))
   obtain rfl := some_eq h
   exact Ends.ret2 (.inl rfl) Tryz.results45 (ResOK.tmp rfl trivial Imp.refl) (ResOK.tmp rfl trivial Imp.refl)
  ·
   obtain ⟨r2, hv5, h⟩ := bind_some h
   refine .skip (.then (.sr [oo, oo, oo, oo, ([], [26]), ([26], [21, 26]), ([21], [27, 21]), oo, ([27], [9, 27]), oo] mx (.mvA rfl (.ldA ty9 rfl (.cA (.buildF (y := (⟨(0 : Int), site1, (0 : Int)⟩ : Stamp)) .none bu40 zc40 rfl (.cons (.s rfl) .nil) (.cons rfl sf40_1 .nil)) (.cA (.buildF (y := (⟨(⟨(0 : Int), site1, (0 : Int)⟩ : Stamp), 3, Str.nil, Str.nil, Str.nil, (0 : Int)⟩ : DOp)) .none bu42 zc42 rfl (.cons (.s rfl) (.cons .i .nil)) (.cons rfl sf42_0 (.cons rfl sf42_1 .nil))) (.cW (.cO [] (edit_further_ok hv5) (.cons (.s rfl) (.cons (.s rfl) .nil)) .nil rfl) (.cW (.passTupM rfl (.s rfl) (.tmp rfl)) (.cW (.extractC rfl (.tmp rfl)) (.exA rfl rfl (.cW (.passRow rfl (.tmp rfl)) (.asnA rfl (.nil (.nameRow (t := 9) (g := 5001) rfl rfl rfl (fun s5001 => (.seq (.sn mx (.mv rfl (.nei rfl (.nil (.cb rfl h (fun _ h => ?_) fun _ h => ?_)))))))))))))))))))))
   ·
    refine .sn mx (.mv rfl (.c (.assign .none (.const (x := ([] : (List DOp))) (fun M w => ⟨_, ⟨none, 0, rfl, Nat.le_refl _, by decide, rfl⟩, rfl⟩))) (.asn rfl (.nil (.ret (.thenRet ?_))))))
    obtain rfl := some_eq h
    exact Ends.ret2 (.inl rfl) Tryz.results45 (ResOK.tmp rfl trivial Imp.refl) (ResOK.tmp rfl trivial Imp.refl)
   ·
    obtain ⟨r3, hv7, h⟩ := bind_some h
    obtain ⟨k1, hv8, h⟩ := bind_some h
    refine .skip (.then (.sn mx (.mv rfl (.mv rfl (.mv rfl (.c (.call .none (edit_counting_ok hv7) (.cons (.s rfl) .nil)) (.c (.callV (l1, r3, k1) .none (.s rfl) (fun _ => hv8) (.cons (.s rfl) (.cons (.s rfl) .nil))) (.asn rfl (.nil (.seq (.sn mx (.mv rfl (.c (.lt .none (.s rfl) .i) (.nil (.cb rfl h (fun _ h => ?_) fun _ h => ?_)))))))))))))))
    ·
     refine .sn mx (.c (.assign .none (.const (x := ([] : (List DOp))) (fun M w => ⟨_, ⟨none, 0, rfl, Nat.le_refl _, by decide, rfl⟩, rfl⟩))) (.asi (.nil (.ret (.thenRet ?_)))))
     obtain rfl := some_eq h
     exact Ends.ret2 (.inl rfl) Tryz.results45 (ResOK.tmp rfl trivial Imp.refl) (ResOK.tmp rfl trivial Imp.refl)
    ·
     refine .skip (.then (.sr [oo, oo, ([5001], []), oo] mx (.mvA rfl (.cA (.makeFunc (ι := DOp × Bool) (pre := fun i => (fun x0 => edit_undone_1 x0 site1) i.1 = some i.2) (Ss := fun i => [rep i.1]) (S := fun i => rep i.2) .none fnok71 (fun i h => edit_undone_1_ok h) (.cons (.s rfl) .nil)) ?_))))
     obtain ⟨at1, hv10, h⟩ := bind_some h
     obtain ⟨hn11, h⟩ := need_some h
     obtain ⟨v1, hv12, h⟩ := bnd_some h
     obtain ⟨hn13, h⟩ := need_some h
     refine .cA (.callC .none fnok70 (fun hg => slices_IndexFunc_Op_ok  hv10) .rep (.lend (k := 5001) (.told (.s rfl) rfl) (.cons (.s rfl) .nil))) (.asnA rfl (.nil (.sr [oo, oo, oo, oo, oo, oo, oo, oo, ([5001], []), ([5001], []), ([5001], [5001])] mx (.mvA rfl (.mvA rfl (.mvA rfl (.mvA rfl (.ixA sl22 ty42 rfl rfl hn11 (.faA fd42_0 hfd42_0 rfl (.faA fd40_2 hfd40_2 rfl (.rlA hv12 ty3 rfl (.ixO 5001 sl22 ty42 rfl rfl rfl hn13 (.fe 5001 fd42_5 rfl rfl hn13 (.cN (.storeElem (k := 5001) ty3 (.s rfl) rfl sf42_5 (.s rfl) hn13) (.nil (.freezeRow (g := 5001) (ts := [9]) rfl (.cons (t := 9) rfl trivial .nil) SubB.nil rfl (.sn mx (.mv rfl (.asn rfl (.asi (.nil (.ret ?_))))))))))))))))))))))
     obtain rfl := some_eq h
     exact Ends.ret2 (.inl rfl) Tryz.results45 (ResOK.tmp rfl trivial Imp.refl) (ResOK.tmp rfl trivial Imp.refl)

theorem edit_Undo_ok {l1 : (List DOp)} {site1 : Str} {r : ((List DOp) × Int)}  (h : edit_Undo l1 site1 = some r) : FSpec Tryz.prog 20 [rep l1, rep site1] (tup [rep r.1, rep r.2]) := by
 unfold edit_Undo at h
 refine FSpec.i Tryz.func20 rfl Tryz.ntmps20 rfl (fun F => (.sn mx (.c (.box .none (.s rfl)) (.c (.assign .none (.const (x := ([] : (List DOp))) (fun M w => ⟨_, ⟨none, 0, rfl, Nat.le_refl _, by decide, rfl⟩, rfl⟩))) (.asi (.nil (.sn mx (.mv rfl (.ld ty9 rfl (.c (.makeFunc (ι := (List DOp) × (List Bool) × Int) (pre := fun i => (fun x0 x1 => edit_Undo_1 x0 x1 site1) i.1 i.2.1 = some i.2.2) (Ss := fun i => [rep i.1, rep i.2.1]) (S := fun i => rep i.2.2) .none fnok46 (fun i h => edit_Undo_1_ok h) (.cons (.s rfl) .nil)) ?_))))))))))
 obtain ⟨r1, hv1, h⟩ := bind_some h
 refine .c (.call .none (edit_undone_ok hv1) (.cons (.s rfl) (.cons (.s rfl) (.cons (.s rfl) .nil)))) (.ex rfl rfl (.ex rfl rfl (.asn rfl (.asn rfl (.nil (.ret ?_))))))
 obtain rfl := some_eq h
 exact Ends.ret2 (.inl rfl) Tryz.results20 (ResOK.tmp rfl trivial Imp.refl) (ResOK.tmp rfl trivial Imp.refl)

theorem edit_Redo_1_ok {l1 : (List DOp)} {counts1 : (List Bool)} {c0_1 : Str} {r : Int}  (h : edit_Redo_1 l1 counts1 c0_1 = some r) : FSpec Tryz.prog 47 [rep l1, rep counts1, ref c0_1] (rep r) := by
 unfold edit_Redo_1 at h
 refine FSpec.i Tryz.func47 rfl Tryz.ntmps47 rfl (fun F => (.sn mx (.asi (.nil (.sn mx (.asi (.nil (.seq (.sn mx (.mv rfl (.ln sl22 rfl (.mvi (.nil ?_)))))))))))))
 obtain ⟨j_1, h, hK1⟩ := bind_some h
 refine .thenJ (ι := Int) (fun j_1 => [(6, ⟨True, rep j_1⟩)]) (fun j_1 => []) (fun s => j_1 = s) Sub.nil SubB.nil ?_ (fun j_1' hj1 => ?_)
 ·
  refine .block (.rforL h (fun p2_ => [(11, ⟨True, rep p2_.1⟩), (6, ⟨True, rep p2_.2⟩)]) (fun p2_ => []) (.k2 11 6 rfl rfl .nil) SubB.nil (.k4 0 1 2 9 rfl rfl rfl rfl (.k 10 rfl .nil)) SubB.nil (fun p2_ o_2 h hD2 => (.sn mx (.lt rfl rfl (.nil (.seq (.cb rfl h (fun _ h => ?_) fun _ h => ?_)))))))
  ·
   refine .skip (.then (.seq ?_))
   obtain ⟨j_4, h, hK4⟩ := bind_some h
   unfold edit_Redo_1_L1 at h
   refine .thenJ (ι := Int) (fun j_4 => [(6, ⟨True, rep j_4⟩)]) (fun j_4 => []) (fun s => j_4 = s) (.k4 0 1 2 9 rfl rfl rfl rfl (.k2 10 11 rfl rfl .nil)) SubB.nil ?_ (fun j_4' hj4 => ?_)
   ·
    obtain ⟨hn5, h⟩ := need_some h
    obtain ⟨v1, hv6, h⟩ := bnd_some h
    refine .block (.sr [oo, oo, oo, ([], [8]), oo, ([8], [8])] mx (.mvA rfl (.ixA sl22 ty42 rfl rfl hn5 (.rlA hv6 ty42 rfl (.al zo42 rfl (.asnA rfl (.st ty42 rfl rfl rfl (.nil (.freeze (t := 8) rfl rfl SubB.nil rfl (.block (.sn mx (.fa fd42_0 hfd42_0 rfl (.fa fd40_1 hfd40_1 rfl (.ld ty9 rfl (.ld ty9 rfl (.c (.neS .none (eqAt_str Tryz.underlying9) (.s rfl) (.s rfl)) (.asn rfl (.nil (.cb rfl h (fun _ h => ?_) fun _ h => ?_)))))))))))))))))))
    ·
     exact .skip (.blkNormal (.blkNormal (Ends.j _ (some_eq h))))
    ·
     refine .sn mx (.fa fd42_1 hfd42_1 rfl (.ld ty3 rfl (.nei rfl (.asn rfl (.nil (.cb rfl h (fun _ h => ?_) fun _ h => ?_))))))
     ·
      exact .rn mx (.asi (.nil (.blkNormal (.blkNormal (Ends.j _ (some_eq h))))))
     ·
      obtain ⟨hn9, h⟩ := need_some h
      obtain ⟨hn10, h⟩ := need_some h
      refine .sn mx (.mv rfl (.mv rfl (.ix sl25 ty4 rfl rfl hn9 (.ld ty4 rfl (.mv rfl (.mg rfl rfl rfl (.mg rfl rfl rfl (.fg fd42_0 hfd42_0 rfl rfl rfl (.c (.fieldAddr (.at rfl rfl) fd40_2 hfd40_2 (.tmp rfl id)) (.lg ty3 rfl rfl rfl (.c (.subW (.at rfl rfl) (.tmp rfl id) (.tmp rfl id)) (.fg fd42_5 hfd42_5 rfl rfl rfl (.lg ty3 rfl rfl rfl (.c (.addW (.at rfl rfl) (.tmp rfl id) (.tmp rfl id)) (.c (.indexAddr (.at rfl rfl) sl22 ty42 (.tmp rfl id) (.tmp rfl id) (fun hg => hn10 hg.2)) (.c (.fieldAddr (.at rfl rfl) fd42_1 hfd42_1 (.tmp rfl id)) (.lg ty3 rfl rfl rfl (.c (.neI (.at rfl rfl) (.tmp rfl id) .i) (.pa rfl rfl (.asn rfl (.nil (.cb rfl h (fun _ h => ?_) fun _ h => ?_))))))))))))))))))))))
      ·
       exact .rn mx (.mv rfl (.asn rfl (.nil (.blkNormal (.blkNormal (Ends.j _ (some_eq h)))))))
      ·
       exact .skip (.blkNormal (.blkNormal (Ends.j _ (some_eq h))))
   ·
    subst hj4; have h := hK4; clear hK4
    exact .rn mx (.adi rfl (.mv rfl (.nil (Ends.ag (some_eq h)))))
  ·
   refine .exit (.thenExit (.thenExit (.blkExit ?_)))
   replace h := hD2 _ (some_eq h)
   exact Ends.j _ (some_eq h)
 ·
  subst hj1; have h := hK1; clear hK1
  refine .sn mx (.mv rfl (.asn rfl (.nil (.ret ?_))))
  obtain rfl := some_eq h
  exact Ends.rt Tryz.results47 rfl

theorem edit_Redo_ok {l1 : (List DOp)} {site1 : Str} {r : ((List DOp) × Int)}  (h : edit_Redo l1 site1 = some r) : FSpec Tryz.prog 21 [rep l1, rep site1] (tup [rep r.1, rep r.2]) := by
 unfold edit_Redo at h
 refine FSpec.i Tryz.func21 rfl Tryz.ntmps21 rfl (fun F => (.sn mx (.c (.box .none (.s rfl)) (.c (.assign .none (.const (x := ([] : (List DOp))) (fun M w => ⟨_, ⟨none, 0, rfl, Nat.le_refl _, by decide, rfl⟩, rfl⟩))) (.asi (.nil (.sn mx (.mv rfl (.ld ty9 rfl (.c (.makeFunc (ι := (List DOp) × (List Bool) × Int) (pre := fun i => (fun x0 x1 => edit_Redo_1 x0 x1 site1) i.1 i.2.1 = some i.2.2) (Ss := fun i => [rep i.1, rep i.2.1]) (S := fun i => rep i.2.2) .none fnok47 (fun i h => edit_Redo_1_ok h) (.cons (.s rfl) .nil)) ?_))))))))))
 obtain ⟨r1, hv1, h⟩ := bind_some h
 refine .c (.call .none (edit_undone_ok hv1) (.cons (.s rfl) (.cons (.s rfl) (.cons (.s rfl) .nil)))) (.ex rfl rfl (.ex rfl rfl (.asn rfl (.asn rfl (.nil (.ret ?_))))))
 obtain rfl := some_eq h
 exact Ends.ret2 (.inl rfl) Tryz.results21 (ResOK.tmp rfl trivial Imp.refl) (ResOK.tmp rfl trivial Imp.refl)

instance : Enc Stamp := Enc.via (fun x : Stamp => (x.Time, x.Site, x.No))
instance : Enc DOp := Enc.via (fun x : DOp => (x.Stamp, x.Kind, x.Id, x.Field, x.Value, x.Of))

theorem sortO_DOp : Sort.SWO (Proofs.ltOf sortC_DOp) := by
 have h : ∀ x y : { x : DOp // sortQ_DOp x }, Proofs.ltOf sortC_DOp x y = decide (cmpL x.1.Stamp.Time x.1.Stamp.Site.b x.1.Stamp.No y.1.Stamp.Time y.1.Stamp.Site.b y.1.Stamp.No < 0) := fun x y => rfl
 constructor
 ·
  intro x; rw [h, cmpL_self]; rfl
 ·
  intro x y z h1 h2
  rw [h] at *
  simp only [decide_eq_true_eq] at *
  exact (cmpL_trans (Int.le_of_lt h1) (Int.le_of_lt h2)).2 (.inl h1)
 ·
  intro x y z h1 h2
  rw [h] at *
  simp only [decide_eq_false_iff_not, Int.not_lt] at *
  have e1 := cmpL_swap x.1.Stamp.Time x.1.Stamp.Site.b x.1.Stamp.No y.1.Stamp.Time y.1.Stamp.Site.b y.1.Stamp.No
  have e2 := cmpL_swap y.1.Stamp.Time y.1.Stamp.Site.b y.1.Stamp.No z.1.Stamp.Time z.1.Stamp.Site.b z.1.Stamp.No
  have e3 := cmpL_swap x.1.Stamp.Time x.1.Stamp.Site.b x.1.Stamp.No z.1.Stamp.Time z.1.Stamp.Site.b z.1.Stamp.No
  have := (cmpL_trans (t := z.1.Stamp.Time) (s := z.1.Stamp.Site.b) (n := z.1.Stamp.No) (t' := y.1.Stamp.Time) (s' := y.1.Stamp.Site.b) (n' := y.1.Stamp.No) (t'' := x.1.Stamp.Time) (s'' := x.1.Stamp.Site.b) (n'' := x.1.Stamp.No) (by omega) (by omega)).1
  omega

theorem sortX_DOp (x y : { x : DOp // sortQ_DOp x }) (w0 : World) : Calls Tryz.prog 34 #[.agg (Enc.enc x.1).toArray, .agg (Enc.enc y.1).toArray] w0 fun e w' => e = .returned (.int .i64 (sortC_DOp x y)) ∧ ∃ q os', w' = Go.Sort.grow (w0.drewN q) os' := by
 obtain ⟨⟨⟨a1, a2, a3⟩, a4, a5, a6, a7, a8⟩, hx⟩ := x
 obtain ⟨⟨⟨b1, b2, b3⟩, b4, b5, b6, b7, b8⟩, hy⟩ := y
 exact laterE_at a1 a3 a4 a8 b1 b3 b4 b8 (cmpL a1 a2.b a3 b1 b2.b b3) (cmpO a2.b a3 b2.b b3) a2 a5 a6 a7 b2 b5 b6 b7 w0 (fun h => by rw [compareBytes_eq] at *; exact if_pos h) (fun h => by rw [compareBytes_eq] at h; exact if_neg (fun e => e h)) (fun h => if_pos h) (fun h => if_neg (fun e => e h))

theorem slices_SortFunc_Op_ok {l r : List DOp} {s : Value} (h : slices_SortFunc_Op l = some r) : FSpecO Tryz.prog 33 [isV s, cloV 34 []] [(s, rowV 42 l)] (anyV) [some (rowV 42 r)] := by
 obtain ⟨hl, h⟩ := need_some h
 obtain rfl := some_eq h
 exact sortF_spec sortF42_lay rfl rfl fnok33 fnok34 Tryz.underlying42 ty42 sortO_DOp sortX_DOp hl.1 hl.2

theorem edit_things_do_ok {t1 : (GMap Str (GMap Str Str))} {x1 : DOp} {r : (GMap Str (GMap Str Str))} {s27 : Value} (h : edit_things_do t1 x1 = some r) : FSpecO Tryz.prog 35 [isV s27, rep x1] [(s27, mapD none t1)] (anyV) [some (mapD none r)] := by
 unfold edit_things_do at h
 refine FSpecO.i Tryz.func35 rfl Tryz.ntmps35 rfl (fun F => (.sn mx (.c (.box .none (.s rfl)) (.nil (.seq (.sn mx (.fa fd42_1 hfd42_1 rfl (.ld ty3 rfl (.eqi rfl (.nil (.cb rfl h (fun _ h => ?_) fun _ h => ?_)))))))))))
 ·
  obtain ⟨c1, hv2, h⟩ := bnd_some h
  refine .sr [oo, oo, oo, ([27], [27])] mx (.mvA rfl (.faA fd42_2 hfd42_2 rfl (.ldA ty9 rfl (.cN (.mapDelD (q := 27) mo61 (.s rfl) rfl (.s rfl)) (.nil (.reB (t := 27) rfl (congrArg (fun y => CPred.at s27 (mapD none y)) hv2) (.ret (.thenRet ?_))))))))
  obtain rfl := some_eq h
  exact Ends.ret0O (.inl rfl) [27] Tryz.results35 (by decide) (.held rfl .nil)
 ·
  refine .skip (.then (.seq (.sr [oo, oo, oo, ([27], []), oo] mx (.mvA rfl (.faA fd42_2 hfd42_2 rfl (.ldA ty9 rfl (.cA (.lookNilM (q := 27) .none mo61 zrawm65 (.s rfl) rfl (.s rfl)) (.cA (.eqNilM .none Tryz.underlying65 (.s rfl)) (.nil ?_)))))))))
  obtain ⟨j_3, h, hK3⟩ := bind_some h
  refine .thenJ (ι := (GMap Str (GMap Str Str))) (fun j_3 => []) (fun j_3 => [(27, some (CPred.at s27 (mapD none j_3)))]) (fun s => j_3 = s) (.k2 0 3 rfl rfl .nil) SubB.nil ?_ (fun j_3' hj3 => ?_)
  ·
   refine .cb rfl h (fun _ h => ?_) fun _ h => ?_
   ·
    exact .rg [oo, oo, oo, ([], [18]), ([27, 18], [27, 18])] mx (.mvA rfl (.faA fd42_2 hfd42_2 rfl (.ldA ty9 rfl (.cW (.makeMap (K := Str) (V := Str) rfl) (.cN (.mapPutD (q := 27) (t := 18) mo61 rfl (.s rfl) rfl rfl rfl (.s rfl)) (.nil (Ends.j _ (some_eq h))))))))
   ·
    exact .skip (Ends.j _ (some_eq h))
  ·
   subst hj3; have h := hK3; clear hK3
   obtain ⟨hn5, h⟩ := need_some h
   refine .openM (q := 27) (r := 5001) (k := x1.Id) rfl rfl hn5 (fun s5001 => (.rg [oo, oo, oo, ([27], []), oo, oo, oo, oo, ([5001], [5001])] mx (.mvA rfl (.faA fd42_2 hfd42_2 rfl (.ldA ty9 rfl (.cA (.lookPin (q := 27) (z := s5001) .none mo61 zrawm65 (.s rfl) rfl (.s rfl)) (.faA fd42_3 hfd42_3 rfl (.ldA ty9 rfl (.faA fd42_4 hfd42_4 rfl (.ldA ty9 rfl (.cN (.mapUpdate (q := 5001) mo65 (.s rfl) rfl (.s rfl) (.s rfl)) (.nil (.closeM (q := 27) (r := 5001) rfl rfl rfl ?_)))))))))))))
   obtain rfl := some_eq h
   exact Ends.ret0O (.inr rfl) [27] Tryz.results35 (by decide) (.held rfl .nil)

instance : Enc Attr := Enc.via (fun x : Attr => (x.Field, x.Value))

theorem sortO_Attr : Sort.SWO (Proofs.ltOf sortC_Attr) := by
 have h : ∀ x y, Proofs.ltOf sortC_Attr x y = decide (cmpB x.1.Field.b y.1.Field.b < 0) := fun x y => rfl
 constructor
 ·
  intro x; rw [h, cmpB_self]; rfl
 ·
  intro x y z h1 h2
  rw [h] at *
  simp only [decide_eq_true_eq] at *
  exact (cmpB_trans (by omega) (by omega)).2 (.inl h1)
 ·
  intro x y z h1 h2
  rw [h] at *
  simp only [decide_eq_false_iff_not, Int.not_lt] at *
  have e1 := cmpB_swap x.1.Field.b y.1.Field.b
  have e2 := cmpB_swap y.1.Field.b z.1.Field.b
  have e3 := cmpB_swap x.1.Field.b z.1.Field.b
  have := (cmpB_trans (a := z.1.Field.b) (b := y.1.Field.b) (c := x.1.Field.b) (by omega) (by omega)).1
  omega

theorem sortX_Attr (x y : { x : Attr // sortQ_Attr x }) (w0 : World) : Calls Tryz.prog 60 #[.agg (Enc.enc x.1).toArray, .agg (Enc.enc y.1).toArray] w0 fun e w' => e = .returned (.int .i64 (sortC_Attr x y)) ∧ ∃ q os', w' = Go.Sort.grow (w0.drewN q) os' := by
 obtain ⟨⟨a1, a2⟩, hx⟩ := x
 obtain ⟨⟨b1, b2⟩, hy⟩ := y
 show Calls Tryz.prog 60 #[.agg #[.string ⟨a1.b.toArray⟩, .string ⟨a2.b.toArray⟩], .agg #[.string ⟨b1.b.toArray⟩, .string ⟨b2.b.toArray⟩]] w0 fun e w' => e = .returned (.int .i64 (cmpB a1.b b1.b)) ∧ ∃ q os', w' = Go.Sort.grow (w0.drewN q) os'
 clear hx hy
 rw [← compareBytes_eq]
 go_enter Tryz.func60, Tryz.ntmps60
 go_wp2_with (go_at_call 52; refine (Proofs.Any.strings_Compare compareStr_lay _ _ _).mono ?_; rintro e w' ⟨rfl, rfl⟩)
 go_ret
 exact ⟨by simp, 0, _, by rw [Go.Sort.alloc_eq_grow, Go.Sort.alloc_eq_grow, Go.Sort.grow_grow]; rfl⟩

theorem slices_SortFunc_Attr_ok {l r : List Attr} {s : Value} (h : slices_SortFunc_Attr l = some r) : FSpecO Tryz.prog 59 [isV s, cloV 60 []] [(s, rowV 78 l)] (anyV) [some (rowV 78 r)] := by
 obtain ⟨hl, h⟩ := need_some h
 obtain rfl := some_eq h
 exact sortF_spec sortF78_lay rfl rfl fnok59 fnok60 Tryz.underlying78 ty78 sortO_Attr sortX_Attr hl.1 hl.2

theorem sortX_Thing (x y : Str × SlV) (w0 : World) : Calls Tryz.prog 62 #[.agg (Enc.enc x).toArray, .agg (Enc.enc y).toArray] w0 fun e w' => e = .returned (.int .i64 (cmpB x.1.b y.1.b)) ∧ ∃ q os', w' = Go.Sort.grow (w0.drewN q) os' := by
 obtain ⟨a1, a2, a3, a4⟩ := x
 obtain ⟨b1, b2, b3, b4⟩ := y
 show Calls Tryz.prog 62 #[.agg #[.string ⟨a1.b.toArray⟩, .slice a2 a3 a4], .agg #[.string ⟨b1.b.toArray⟩, .slice b2 b3 b4]] w0 fun e w' => e = .returned (.int .i64 (cmpB a1.b b1.b)) ∧ ∃ q os', w' = Go.Sort.grow (w0.drewN q) os'
 rw [← compareBytes_eq]
 go_enter Tryz.func62, Tryz.ntmps62
 go_wp2_with (go_at_call 52; refine (Proofs.Any.strings_Compare compareStr_lay _ _ _).mono ?_; rintro e w' ⟨rfl, rfl⟩)
 go_ret
 exact ⟨by simp, 0, _, by rw [Go.Sort.alloc_eq_grow, Go.Sort.alloc_eq_grow, Go.Sort.grow_grow]; rfl⟩

theorem slices_SortFunc_Thing_ok {l r : List Thing} {s : Value} (h : slices_SortFunc_Thing l = some r) : FSpecO Tryz.prog 61 [isV s, cloV 62 []] [(s, rowV 75 l)] (anyV) [some (rowV 75 r)] := by
 obtain ⟨hl, h⟩ := need_some h
 obtain rfl := some_eq h
 exact sortU_spec sortF75_lay (fun x : Thing => (x.Id, x.Attrs)) rfl rfl fnok61 fnok62 Tryz.underlying75 tyU75 sortX_Thing hl.1 hl.2

theorem edit_things_listed_ok {t1 : (GMap Str (GMap Str Str))} {r : (List Thing)}  (h : edit_things_listed t1 = some r) : FSpec Tryz.prog 36 [rep t1] (rep r) := by
 unfold edit_things_listed at h
 refine FSpec.i Tryz.func36 rfl Tryz.ntmps36 rfl (fun F => (.sn mx (.c (.assign .none (.const (x := ([] : (List Thing))) (fun M w => ⟨_, ⟨none, 0, rfl, Nat.le_refl _, by decide, rfl⟩, rfl⟩))) (.nil (.sr [([], [3])] mx (.cW (.nilRow (T := 75) (α := Thing) rfl) (.nil (.nameRow (t := 3) (g := 5001) rfl rfl rfl (fun s5001 => (.seq (.sr [oo, ([], [10])] mx (.mvA rfl (.cW (.rangeMap Tryz.underlying61 rfl (.s rfl)) (.nil (.nameAt (t := 10) (g := 5002) rfl rfl isBox_iterF rfl (fun m5002 => ?_))))))))))))))))
 obtain ⟨P1, h, hK1⟩ := mrangeK_some h
 refine .thenJ (ι := (List Thing)) (fun j_1 => []) (fun j_1 => [(3, some (rowV 75 j_1))]) (fun s => P1 s) (.k 10 rfl .nil) SubB.nil ?_ (fun j_1 hj1 => ?_)
 ·
  refine .block (.anon (t := 3) (g := 5001) rfl rfl trivial rfl (.listsF (q := 5002) rfl (fun hf2 => (.mrangeKL h hf2 (fun p2_ => []) (fun p2_ => [(5002, some (CPred.at (ptr m5002 0) (iterF t1 p2_.1))), (3, some (rowV 75 p2_.2))]) Sub.nil (.k2 5002 3 rfl rfl .nil) (.k 10 rfl .nil) SubB.nil (fun p2_ H2 => (.nameRow (t := 3) (g := 5003) rfl rfl rfl (fun s5003 => (.sr [([5002], [11, 5002]), ([11], [12, 11])] mx (.cW (.nextF (k := 5002) rfl rfl (.s rfl)) (.cW (.nextedOk (d := 11) rfl rfl) (.nil (.openNext (t := 12) (k := 5002) rfl rfl rfl (fun o2_ ho2 => ?_)))))))))))))
  obtain ⟨out2_, h, hD2⟩ := H2 o2_ ho2
  refine .againM (fun s' hs' => ⟨o2_, ho2, h.trans (congrArg some hs')⟩) (.seq ?_)
  cases o2_ with
  | some x2_ =>
   replace h := mstep_some h
   refine .condT (t := 12) rfl trivial rfl (.skip (.then ?_))
   obtain ⟨j_3, h, hK3⟩ := bind_some h
   unfold edit_things_listed_L1 at h
   refine .tailJ (ι := (List Thing)) (fun j_3 => []) (fun j_3 => [(3, some (rowV 75 j_3))]) (fun s => j_3 = s) (.k 10 rfl .nil) (.k 5002 rfl .nil) ?_ (fun j_3' hj3 => ?_)
   ·
    refine .block (.sr [([5002], []), oo, oo, oo, oo] mx (.cA (.entryF (k := 5002) (p := p2_.1) (y := x2_) rfl (.s rfl)) (.exA rfl rfl (.exA rfl rfl (.asnA rfl (.asnA rfl (.nil (.sr [oo, oo, ([], [6]), ([6], [6])] mx (.mvA rfl (.cA (.buildF (y := (⟨x2_.1, ⟨.slice none 0 0⟩⟩ : Thing_o1)) .none bu75 zvc_Thing_o1 rfl (.cons (.s rfl) .nil) (.cons rfl sv_Thing_o1_0 .nil)) (.al zo75 rfl (.cN (.storeH tyv_Thing_o1 rfl (by rfl) rfl (.s rfl)) (.nil (.nameAt (t := 6) (g := 5004) rfl rfl isBox_cont rfl (fun m5004 => (.nilKey (g := 5005) (T := 78) (α := Attr) rfl (.seq (.sr [oo, ([], [19])] mx (.mvA rfl (.cW (.rangeMap Tryz.underlying65 rfl (.s rfl)) (.nil (.nameAt (t := 19) (g := 5006) rfl rfl isBox_iterF rfl (fun m5006 => ?_)))))))))))))))))))))))
    obtain ⟨P4, h, hK4⟩ := mrangeK_some h
    refine .thenJ (ι := Thing) (fun j_4 => []) (fun j_4 => [(5004, some (CPred.at (ptr m5004 0) (deep (fun z0 => cont 75 (⟨j_4.Id, ⟨z0⟩⟩ : Thing_o1)) (rowV 78 j_4.Attrs))))]) (fun s => P4 s) (.k4 3 6 10 19 rfl rfl rfl rfl .nil) (.k2 5002 5003 rfl rfl .nil) ?_ (fun j_4 hj4 => ?_)
    ·
     refine .block (.close (k := 5004) (g := 5005) (fun z => cont 75 (⟨x2_.1, ⟨z⟩⟩ : Thing_o1)) rfl rfl rfl (.listsF (q := 5006) rfl (fun hf5 => (.mrangeKL h hf5 (fun p5_ => []) (fun p5_ => [(5006, some (CPred.at (ptr m5006 0) (iterF x2_.2 p5_.1))), (5004, some (CPred.at (ptr m5004 0) (deep (fun z0 => cont 75 (⟨p5_.2.Id, ⟨z0⟩⟩ : Thing_o1)) (rowV 78 p5_.2.Attrs))))]) Sub.nil (.k2 5006 5004 rfl rfl .nil) (.k4 3 6 10 19 rfl rfl rfl rfl .nil) (.k2 5002 5003 rfl rfl .nil) (fun p5_ H5 => (.open (k := 5004) (g := 5007) rfl rfl (fun s5007 => (.sr [([5006], [20, 5006]), ([20], [21, 20])] mx (.cW (.nextF (k := 5006) rfl rfl (.s rfl)) (.cW (.nextedOk (d := 20) rfl rfl) (.nil (.openNext (t := 21) (k := 5006) rfl rfl rfl (fun o5_ ho5 => ?_)))))))))))))
     obtain ⟨out5_, h, hD5⟩ := H5 o5_ ho5
     refine .againM (fun s' hs' => ⟨o5_, ho5, h.trans (congrArg some hs')⟩) (.seq ?_)
     cases o5_ with
     | some x5_ =>
      replace h := mstep_some h
      refine .condT (t := 21) rfl trivial rfl (.skip (.then ?_))
      obtain ⟨j_6, h, hK6⟩ := bind_some h
      unfold edit_things_listed_L2 at h
      refine .tailJ (ι := Thing) (fun j_6 => []) (fun j_6 => [(5004, some (CPred.at (ptr m5004 0) (deep (fun z0 => cont 75 (⟨j_6.Id, ⟨z0⟩⟩ : Thing_o1)) (rowV 78 j_6.Attrs))))]) (fun s => j_6 = s) (.k4 3 6 10 19 rfl rfl rfl rfl .nil) (.k2 5002 5003 rfl rfl (.k 5006 rfl .nil)) ?_ (fun j_6' hj6 => ?_)
      ·
       obtain ⟨hn7, h⟩ := need_some h
       exact .block (.sr [([5006], []), oo, oo, oo, oo] mx (.cA (.entryF (k := 5006) (p := p5_.1) (y := x5_) rfl (.s rfl)) (.exA rfl rfl (.exA rfl rfl (.asnA rfl (.asnA rfl (.nil (.rg [oo, ([5004], []), oo, oo, oo, oo, ([5007], [31, 5007]), oo, ([5004, 31], [5004, 31])] mx (.cA (.fieldPtr .none fd75_1 (.s rfl)) (.cA (.loadAt (k := 5004) .none tr73 rfl (.s rfl) hv_Thing_o1_1) (.mvA rfl (.mvA rfl (.cA (.buildF (y := (⟨x5_.1, x5_.2⟩ : Attr)) .none bu78 zc78 rfl (.cons (.s rfl) (.cons (.s rfl) .nil)) (.cons rfl sf78_0 (.cons rfl sf78_1 .nil))) (.cA (.buildSlice (xs := [_]) .none sl73 ty78 hz78 (.cons (.s rfl) .nil) rfl (by decide)) (.cW (.append (k := 5007) rk73 rfl (.told (.s rfl) rfl) (.s rfl) hn7) (.cA (.fieldPtr .none fd75_1 (.s rfl)) (.cN (.storeRow (k := 5004) (t := 31) ty73 rfl (.s rfl) sv_Thing_o1_1 rfl rfl) (.nil (.blkNormal (Ends.j _ (some_eq h)))))))))))))))))))))
      ·
       subst hj6; have h := hK6; clear hK6
       exact Ends.ag (some_eq h)
     | none =>
      replace h := mstep_none h
      refine .condF (t := 21) rfl trivial rfl (.exit (.thenExit (.thenExit (.blkExit (.close (k := 5004) (g := 5007) (fun z => cont 75 (⟨p5_.2.Id, ⟨z⟩⟩ : Thing_o1)) rfl rfl rfl ?_)))))
      replace h := hD5 _ (some_eq h)
      exact Ends.join _ h (.k4 3 6 10 19 rfl rfl rfl rfl .nil) (.k2 5004 5002 rfl rfl (.k 5003 rfl .nil))
    ·
     have h := hK4 _ hj4; clear hK4
     obtain ⟨r1, hv8, h⟩ := bind_some h
     refine .open (k := 5004) (g := 5008) rfl rfl (fun s5008 => (.sr [oo, ([5004], []), ([5008], [5008])] mx (.cA (.fieldPtr .none fd75_1 (.s rfl)) (.cA (.loadAt (k := 5004) .none tr73 rfl (.s rfl) hv_Thing_o1_1) (.cW (.cO [5008] (slices_SortFunc_Attr_ok hv8) (.cons (.s rfl) (.cons .funcC .nil)) (.cons (k := 5008) rfl .nil) rfl) (.nil (.close (k := 5004) (g := 5008) (fun z => cont 75 (⟨j_4.Id, ⟨z⟩⟩ : Thing_o1)) rfl rfl rfl (.freezeAt (g := 5004) (S := ref ({ j_4 with Attrs := r1 } : Thing)) (ts := [6]) rfl (.cons (t := 6) rfl trivial .nil) (.k2 5002 5003 rfl rfl .nil) rfl (fun M D w h hms => deep_ref1 (mk := (fun s1_ => (⟨j_4.Id, ⟨s1_⟩⟩ : Thing_o1))) (y := ({ j_4 with Attrs := r1 } : Thing)) frzRow rfl (fun M s1_ cs w hc g1 => by obtain ⟨c0, q0, e0, h0, h1⟩ := hc; exact ⟨c0, q0, e0, h0, raw_cells rfl rfl h1 g1⟩) M D w h hms) ?_))))))))
     obtain ⟨hn9, h⟩ := need_some h
     exact .rg [oo, oo, oo, ([5003], [39, 5003]), ([39], [3, 39])] mx (.mvA rfl (.ldA ty75 rfl (.cA (.buildSlice (xs := [_]) .none sl28 ty75 hz75 (.cons (.s rfl) .nil) rfl (by decide)) (.cW (.append (k := 5003) rk28 rfl (.told (.s rfl) rfl) (.s rfl) hn9) (.cW (.passRow rfl (.tmp rfl)) (.nil (.blkNormal (Ends.j _ (some_eq h)))))))))
   ·
    subst hj3; have h := hK3; clear hK3
    exact Ends.ag (some_eq h)
  | none =>
   replace h := mstep_none h
   refine .condF (t := 12) rfl trivial rfl (.exit (.thenExit (.thenExit (.blkExit (.anon (t := 3) (g := 5003) rfl rfl trivial rfl ?_)))))
   replace h := hD2 _ (some_eq h)
   exact Ends.join _ h (.k 10 rfl .nil) (.k 3 rfl .nil)
 ·
  have h := hK1 _ hj1; clear hK1
  obtain ⟨r2, hv10, h⟩ := bind_some h
  refine .nameRow (t := 3) (g := 5009) rfl rfl rfl (fun s5009 => (.sr [oo, ([5009], [5009])] mx (.mvA rfl (.cW (.cO [5009] (slices_SortFunc_Thing_ok hv10) (.cons (.s rfl) (.cons .funcC .nil)) (.cons (k := 5009) rfl .nil) rfl) (.nil (.freezeRow (g := 5009) (ts := [3]) rfl (.cons (t := 3) rfl trivial .nil) SubB.nil rfl (.sn mx (.mv rfl (.asn rfl (.nil (.ret ?_)))))))))))
  obtain rfl := some_eq h
  exact Ends.rt Tryz.results36 rfl

theorem edit_State_ok {l1 : (List DOp)} {r : ((List Thing) × Int)}  (h : edit_State l1 = some r) : FSpec Tryz.prog 8 [rep l1] (tup [rep r.1, rep r.2]) := by
 unfold edit_State at h
 obtain ⟨e1, hv1, h⟩ := bind_some h
 refine FSpec.i Tryz.func8 rfl Tryz.ntmps8 rfl (fun F => (.sn mx (.c (.assign .none (.const (x := ([] : (List Thing))) (fun M w => ⟨_, ⟨none, 0, rfl, Nat.le_refl _, by decide, rfl⟩, rfl⟩))) (.asi (.nil (.seq (.sn mx (.mv rfl (.c (.call .none (edit_Check_ok hv1) (.cons (.s rfl) .nil)) (.asn rfl (.nil (.sn mx (.mv rfl (.nei rfl (.nil (.cb rfl h (fun _ h => ?_) fun _ h => ?_))))))))))))))))
 ·
  refine .sn mx (.mv rfl (.c (.assign .none (.const (x := ([] : (List Thing))) (fun M w => ⟨_, ⟨none, 0, rfl, Nat.le_refl _, by decide, rfl⟩, rfl⟩))) (.asn rfl (.nil (.ret (.thenRet ?_))))))
  obtain rfl := some_eq h
  exact Ends.ret2 (.inl rfl) Tryz.results8 (ResOK.tmp rfl trivial Imp.refl) (ResOK.tmp rfl trivial Imp.refl)
 ·
  obtain ⟨r1, hv3, h⟩ := bind_some h
  refine .skip (.then (.sr [([], [5])] mx (.cW (.nilRow (T := 42) (α := DOp) rfl) (.nil (.nameRow (t := 5) (g := 5001) rfl rfl rfl (fun s5001 => (.seq (.sn mx (.mv rfl (.c (.call .none (edit_counting_ok hv3) (.cons (.s rfl) .nil)) (.ln sl25 rfl (.mvi (.nil ?_)))))))))))))
  obtain ⟨j_4, h, hK4⟩ := bind_some h
  refine .thenJ (ι := (List DOp)) (fun j_4 => []) (fun j_4 => [(5, some (rowV 42 j_4))]) (fun s => j_4 = s) Sub.nil SubB.nil ?_ (fun j_4' hj4 => ?_)
  ·
   refine .block (.anon (t := 5) (g := 5001) rfl rfl trivial rfl (.rforL h (fun p5_ => [(19, ⟨True, rep p5_.1⟩)]) (fun p5_ => [(5, some (rowV 42 p5_.2))]) (.k 19 rfl .nil) (.k 5 rfl .nil) (.k2 0 17 rfl rfl (.k 18 rfl .nil)) SubB.nil (fun p5_ o_5 h hD5 => (.nameRow (t := 5) (g := 5002) rfl rfl rfl (fun s5002 => (.sn mx (.lt rfl rfl (.nil (.seq (.cb rfl h (fun _ h => ?_) fun _ h => ?_))))))))))
   ·
    refine .skip (.then (.seq ?_))
    obtain ⟨j_7, h, hK7⟩ := bind_some h
    unfold edit_State_L1 at h
    refine .thenJ (ι := (List DOp)) (fun j_7 => []) (fun j_7 => [(5, some (rowV 42 j_7))]) (fun s => j_7 = s) (.k4 0 17 18 19 rfl rfl rfl rfl .nil) SubB.nil ?_ (fun j_7' hj7 => ?_)
    ·
     obtain ⟨hn8, h⟩ := need_some h
     obtain ⟨hn9, h⟩ := need_some h
     refine .block (.sn mx (.mv rfl (.ix sl25 ty4 rfl rfl hn8 (.ld ty4 rfl (.asn rfl (.asn rfl (.nil (.sn mx (.mv rfl (.mv rfl (.mg rfl rfl rfl (.mg rfl rfl rfl (.c (.indexAddr (.at rfl rfl) sl22 ty42 (.tmp rfl id) (.tmp rfl id) (fun hg => hn9 hg.2)) (.c (.fieldAddr (.at rfl rfl) fd42_1 hfd42_1 (.tmp rfl id)) (.lg ty3 rfl rfl rfl (.c (.neI (.at rfl rfl) (.tmp rfl id) .i) (.pa rfl rfl (.nil (.cb rfl h (fun _ h => ?_) fun _ h => ?_)))))))))))))))))))
     ·
      obtain ⟨hn11, h⟩ := need_some h
      obtain ⟨hn12, h⟩ := need_some h
      exact .rg [oo, oo, oo, oo, oo, oo, ([5002], [39, 5002]), ([39], [5, 39])] mx (.mvA rfl (.mvA rfl (.mvA rfl (.ixA sl22 ty42 rfl rfl hn11 (.ldA ty42 rfl (.cA (.buildSlice (xs := [_]) .none sl22 ty42 hz42 (.cons (.s rfl) .nil) rfl (by decide)) (.cW (.append (k := 5002) rk22 rfl (.told (.s rfl) rfl) (.s rfl) hn12) (.consWD (.passRow rfl (.tmp rfl)) rfl rfl (.nil (.blkNormal (Ends.j _ (some_eq h))))))))))))
     ·
      exact .skip (.blkNormal (.anon (t := 5) (g := 5002) rfl rfl trivial rfl (Ends.j _ (some_eq h))))
    ·
     subst hj7; have h := hK7; clear hK7
     exact .nameRow (t := 5) (g := 5003) rfl rfl rfl (fun s5003 => (.rn mx (.adi rfl (.mv rfl (.nil (.anon (t := 5) (g := 5003) rfl rfl trivial rfl (Ends.ag (some_eq h))))))))
   ·
    refine .exit (.thenExit (.thenExit (.blkExit (.anon (t := 5) (g := 5002) rfl rfl trivial rfl ?_))))
    replace h := hD5 _ (some_eq h)
    exact Ends.j _ (some_eq h)
  ·
   subst hj4; have h := hK4; clear hK4
   obtain ⟨r2, hv13, h⟩ := bind_some h
   obtain ⟨t1, hv14, h⟩ := bnd_some h
   refine .nameRow (t := 5) (g := 5004) rfl rfl rfl (fun s5004 => (.sr [oo, ([5004], [5004])] mx (.mvA rfl (.cW (.cO [5004] (slices_SortFunc_Op_ok hv13) (.cons (.s rfl) (.cons .funcC .nil)) (.cons (k := 5004) rfl .nil) rfl) (.nil (.freezeRow (g := 5004) (ts := [5]) rfl (.cons (t := 5) rfl trivial .nil) SubB.nil rfl (.sr [([], [43]), ([43], [8, 43])] mx (.cW (.makeMapD (K := Str) (K2 := Str) (V := Str) rfl) (.cW (.passRow rfl (.tmp rfl)) (.nil (.reB (t := 8) rfl (congrArg (mapD none) hv14) (.nameC (t := 8) (g := 5005) oneMapD rfl rfl rfl (fun s5005 => (.seq (.sn mx (.mv rfl (.ln sl22 rfl (.mvi (.nil ?_)))))))))))))))))))
   obtain ⟨j_15, h, hK15⟩ := bind_some h
   refine .thenJ (ι := (GMap Str (GMap Str Str))) (fun j_15 => []) (fun j_15 => [(5005, some (CPred.at s5005 (mapD none j_15)))]) (fun s => j_15 = s) (.k 8 rfl .nil) SubB.nil ?_ (fun j_15' hj15 => ?_)
   ·
    refine .block (.rforL h (fun p16_ => [(46, ⟨True, rep p16_.1⟩)]) (fun p16_ => [(5005, some (CPred.at s5005 (mapD none p16_.2)))]) (.k 46 rfl .nil) (.k 5005 rfl .nil) (.k2 8 44 rfl rfl (.k 45 rfl .nil)) SubB.nil (fun p16_ o_16 h hD16 => (.sn mx (.lt rfl rfl (.nil (.seq (.cb rfl h (fun _ h => ?_) fun _ h => ?_)))))))
    ·
     refine .skip (.then (.seq ?_))
     obtain ⟨j_18, h, hK18⟩ := bind_some h
     unfold edit_State_L2 at h
     refine .thenJ (ι := (GMap Str (GMap Str Str))) (fun j_18 => []) (fun j_18 => [(5005, some (CPred.at s5005 (mapD none j_18)))]) (fun s => j_18 = s) (.k4 8 44 45 46 rfl rfl rfl rfl .nil) SubB.nil ?_ (fun j_18' hj18 => ?_)
     ·
      obtain ⟨hn19, h⟩ := need_some h
      obtain ⟨v1, hv20, h⟩ := bnd_some h
      obtain ⟨r3, hv21, h⟩ := bind_some h
      exact .block (.sr [oo, oo, ([], [10]), ([10], [10])] mx (.ixA sl22 ty42 rfl rfl hn19 (.rlA hv20 ty42 rfl (.al zo42 rfl (.st ty42 rfl rfl rfl (.nil (.freeze (t := 10) rfl rfl (.k 5005 rfl .nil) rfl (.rg [oo, oo, ([5005], [5005])] mx (.mvA rfl (.ldA ty42 rfl (.cW (.cO [5005] (edit_things_do_ok hv21) (.cons (.s rfl) (.cons (.s rfl) .nil)) (.cons (k := 5005) rfl .nil) rfl) (.nil (.blkNormal (Ends.j _ (some_eq h)))))))))))))))
     ·
      subst hj18; have h := hK18; clear hK18
      exact .rn mx (.adi rfl (.mv rfl (.nil (Ends.ag (some_eq h)))))
    ·
     refine .exit (.thenExit (.thenExit (.blkExit ?_)))
     replace h := hD16 _ (some_eq h)
     exact Ends.j _ (some_eq h)
   ·
    subst hj15; have h := hK15; clear hK15
    refine .freezeAt (g := 5005) (S := rep j_15) (ts := [8]) rfl (.cons (t := 8) rfl trivial .nil) SubB.nil rfl (fun M D w h hms => mapD_rep h hms) ?_
    obtain ⟨r4, hv22, h⟩ := bind_some h
    refine .sn mx (.mv rfl (.c (.call .none (edit_things_listed_ok hv22) (.cons (.s rfl) .nil)) (.asn rfl (.asi (.nil (.ret ?_))))))
    obtain rfl := some_eq h
    exact Ends.ret2 (.inl rfl) Tryz.results8 (ResOK.tmp rfl trivial Imp.refl) (ResOK.tmp rfl trivial Imp.refl)

theorem slices_EqualFunc_Thing_ok {s1_1 : (List Thing)} {s2_1 : (List Thing)} {eq1 : (Thing → Thing → Option Bool)} {r : Bool}  (h : slices_EqualFunc_Thing s1_1 s2_1 eq1 = some r) : FSpec Tryz.prog 48 [rep s1_1, rep s2_1, fn2 Tryz.prog (rep (α := Bool)) eq1] (rep r) := by
 unfold slices_EqualFunc_Thing at h
 refine FSpec.i Tryz.func48 rfl Tryz.ntmps48 rfl (fun F => (.sn mx (.asb (.nil (.seq (.sn mx (.mv rfl (.ln sl28 rfl (.mv rfl (.ln sl28 rfl (.c (.neI .none (.s rfl) (.s rfl)) (.nil (.cb rfl h (fun _ h => ?_) fun _ h => ?_)))))))))))))
 ·
  refine .sn mx (.asb (.nil (.ret (.thenRet ?_))))
  obtain rfl := some_eq h
  exact Ends.rt Tryz.results48 rfl
 ·
  refine .skip (.then (.seq (.sn mx (.mv rfl (.ln sl28 rfl (.mvi (.nil ?_)))))))
  obtain ⟨o_2, h, hK2⟩ := bindR_some h
  refine .tJ (fun s => o_2 = Res.nx s) Sub.nil SubB.nil ?_ (fun j_2 hj2 => ?_)
  ·
   refine .block (.rforEL h (fun p3_ => [(17, ⟨True, rep p3_.1⟩)]) (fun p3_ => []) (.k 17 rfl .nil) SubB.nil (.k4 1 2 15 16 rfl rfl rfl rfl .nil) SubB.nil (fun p3_ o_3 h hD3 => (.sn mx (.lt rfl rfl (.nil (.seq (.cb rfl h (fun _ h => ?_) fun _ h => ?_)))))))
   ·
    refine .skip (.then (.seq ?_))
    obtain ⟨o_5, h, hK5⟩ := bindD_some h
    unfold slices_EqualFunc_Thing_L1 at h
    refine .tJ (fun s => o_5 = Res.nx s) (.k4 1 2 15 16 rfl rfl rfl rfl (.k 17 rfl .nil)) SubB.nil ?_ (fun j_5 hj5 => ?_)
    ·
     obtain ⟨hn6, h⟩ := need_some h
     obtain ⟨v1, hv7, h⟩ := bnd_some h
     obtain ⟨hn8, h⟩ := need_some h
     obtain ⟨v2, hv9, h⟩ := bnd_some h
     obtain ⟨r1, hv10, h⟩ := bind_some h
     refine .block (.sr [oo, oo, oo, ([], [8]), oo, ([8], [8])] mx (.mvA rfl (.ixA sl28 ty75 rfl rfl hn6 (.rlA hv7 ty75 rfl (.al zo75 rfl (.asnA rfl (.st ty75 rfl rfl rfl (.nil (.freeze (t := 8) rfl rfl SubB.nil rfl (.sr [oo, oo, oo, oo, ([], [9]), ([9], [9])] mx (.mvA rfl (.mvA rfl (.ixA sl28 ty75 rfl rfl hn8 (.rlA hv9 ty75 rfl (.al zo75 rfl (.st ty75 rfl rfl rfl (.nil (.freeze (t := 9) rfl rfl SubB.nil rfl (.sn mx (.mv rfl (.ld ty75 rfl (.ld ty75 rfl (.c (.callV (v1, v2, r1) .none (.s rfl) (fun _ => hv10) (.cons (.s rfl) (.cons (.s rfl) .nil))) (.c (.not .none (.s rfl)) (.nil (.cb rfl h (fun _ h => ?_) fun _ h => ?_))))))))))))))))))))))))))
     ·
      refine .sn mx (.asb (.nil (.ret (.blkRet (.thenRet (.thenRet (.blkRet (.thenRet ?_))))))))
      replace h := resd_ab hK5 (some_eq h)
      replace h := hD3 _ (some_eq h)
      replace h := resb_ab hK2 (some_eq h)
      obtain rfl := some_eq h
      exact Ends.rt Tryz.results48 rfl
     ·
      exact .skip (.blkNormal (Ends.j _ (some_eq h)))
    ·
     have h := resd_nx hK5 hj5
     exact .rn mx (.adi rfl (.mv rfl (.nil (Ends.ag (some_eq h)))))
   ·
    refine .exit (.thenExit (.thenExit (.blkExit ?_)))
    replace h := hD3 _ (some_eq h)
    exact Ends.j _ (some_eq h)
  ·
   have h := resb_nx hK2 hj2
   refine .sn mx (.asb (.nil (.ret ?_)))
   obtain rfl := some_eq h
   exact Ends.rt Tryz.results48 rfl

theorem slices_Equal_Attr_ok {s1_1 : (List Attr)} {s2_1 : (List Attr)} {r : Bool}  (h : slices_Equal_Attr s1_1 s2_1 = some r) : FSpec Tryz.prog 50 [rep s1_1, rep s2_1] (rep r) := by
 unfold slices_Equal_Attr at h
 refine FSpec.i Tryz.func50 rfl Tryz.ntmps50 rfl (fun F => (.sn mx (.asb (.nil (.seq (.sn mx (.mv rfl (.ln sl73 rfl (.mv rfl (.ln sl73 rfl (.c (.neI .none (.s rfl) (.s rfl)) (.nil (.cb rfl h (fun _ h => ?_) fun _ h => ?_)))))))))))))
 ·
  refine .sn mx (.asb (.nil (.ret (.thenRet ?_))))
  obtain rfl := some_eq h
  exact Ends.rt Tryz.results50 rfl
 ·
  refine .skip (.then (.seq (.sn mx (.mv rfl (.ln sl73 rfl (.mvi (.nil ?_)))))))
  obtain ⟨o_2, h, hK2⟩ := bindR_some h
  refine .tJ (fun s => o_2 = Res.nx s) Sub.nil SubB.nil ?_ (fun j_2 hj2 => ?_)
  ·
   refine .block (.rforEL h (fun p3_ => [(13, ⟨True, rep p3_.1⟩)]) (fun p3_ => []) (.k 13 rfl .nil) SubB.nil (.k2 0 1 rfl rfl (.k 12 rfl .nil)) SubB.nil (fun p3_ o_3 h hD3 => (.sn mx (.lt rfl rfl (.nil (.seq (.cb rfl h (fun _ h => ?_) fun _ h => ?_)))))))
   ·
    refine .skip (.then (.seq ?_))
    obtain ⟨o_5, h, hK5⟩ := bindD_some h
    unfold slices_Equal_Attr_L1 at h
    refine .tJ (fun s => o_5 = Res.nx s) (.k4 0 1 12 13 rfl rfl rfl rfl .nil) SubB.nil ?_ (fun j_5 hj5 => ?_)
    ·
     obtain ⟨hn6, h⟩ := need_some h
     obtain ⟨hn7, h⟩ := need_some h
     refine .block (.sn mx (.mv rfl (.asn rfl (.nil (.sn mx (.mv rfl (.mv rfl (.ix sl73 ty78 rfl rfl hn6 (.ld ty78 rfl (.mv rfl (.mv rfl (.ix sl73 ty78 rfl rfl hn7 (.ld ty78 rfl (.c (.neS .none eqa78 (.s rfl) (.s rfl)) (.nil (.cb rfl h (fun _ h => ?_) fun _ h => ?_))))))))))))))))
     ·
      refine .sn mx (.asb (.nil (.ret (.blkRet (.thenRet (.thenRet (.blkRet (.thenRet ?_))))))))
      replace h := resd_ab hK5 (some_eq h)
      replace h := hD3 _ (some_eq h)
      replace h := resb_ab hK2 (some_eq h)
      obtain rfl := some_eq h
      exact Ends.rt Tryz.results50 rfl
     ·
      exact .skip (.blkNormal (Ends.j _ (some_eq h)))
    ·
     have h := resd_nx hK5 hj5
     exact .rn mx (.adi rfl (.mv rfl (.nil (Ends.ag (some_eq h)))))
   ·
    refine .exit (.thenExit (.thenExit (.blkExit ?_)))
    replace h := hD3 _ (some_eq h)
    exact Ends.j _ (some_eq h)
  ·
   have h := resb_nx hK2 hj2
   refine .sn mx (.asb (.nil (.ret ?_)))
   obtain rfl := some_eq h
   exact Ends.rt Tryz.results50 rfl

theorem top_same_1_ok {x1 : Thing} {y1 : Thing} {r : Bool}  (h : top_same_1 x1 y1 = some r) : FSpec Tryz.prog 49 [rep x1, rep y1] (rep r) := by
 unfold top_same_1 at h
 obtain ⟨r1, hv1, h⟩ := bind_some h
 refine FSpec.i Tryz.func49 rfl Tryz.ntmps49 rfl (fun F => (.sn mx (.c (.box .none (.s rfl)) (.c (.box .none (.s rfl)) (.asb (.nil (.sn mx (.fa fd75_0 hfd75_0 rfl (.ld ty9 rfl (.fa fd75_0 hfd75_0 rfl (.ld ty9 rfl (.c (.eqS .none (eqAt_str Tryz.underlying9) (.s rfl) (.s rfl)) (.mv rfl (.fg fd75_1 hfd75_1 rfl rfl rfl (.lg ty73 rfl rfl rfl (.fg fd75_1 hfd75_1 rfl rfl rfl (.lg ty73 rfl rfl rfl (.c (.callIf (.at rfl rfl) fnok50 (fun hg => slices_Equal_Attr_ok ((fun hg => gd_some hv1 (hg.2)) hg)) (.cons (.tmp rfl id) (.cons (.tmp rfl id) .nil)) (fun h => h)) (.pa rfl rfl (.asn rfl (.nil (.ret ?_))))))))))))))))))))))
 obtain rfl := some_eq h
 exact Ends.rt Tryz.results49 rfl

theorem top_same_ok {a1 : (List Thing)} {b1 : (List Thing)} {r : Bool}  (h : top_same a1 b1 = some r) : FSpec Tryz.prog 22 [rep a1, rep b1] (rep r) := by
 unfold top_same at h
 obtain ⟨r1, hv1, h⟩ := bind_some h
 refine FSpec.i Tryz.func22 rfl Tryz.ntmps22 rfl (fun F => (.sn mx (.asb (.nil (.sn mx (.mv rfl (.mv rfl (.c (.call .none (slices_EqualFunc_Thing_ok hv1) (.cons (.s rfl) (.cons (.s rfl) (.cons (Opd.func (ι := Thing × Thing × Bool) (pre := fun i => top_same_1 i.1 i.2.1 = some i.2.2) (Ss := fun i => [rep i.1, rep i.2.1]) (S := fun i => rep i.2.2) fnok49 (fun i h => top_same_1_ok h)) .nil)))) (.asn rfl (.nil (.ret ?_)))))))))))
 obtain rfl := some_eq h
 exact Ends.rt Tryz.results22 rfl

theorem top_TopEditsMeet_ok {a1 : (List DOp)} {b1 : (List DOp)} {c1 : (List DOp)} {cut1 : Int} {site1 : Str} {r : Bool}  (h : top_TopEditsMeet a1 b1 c1 cut1 site1 = some r) : FSpec Tryz.prog 4 [rep a1, rep b1, rep c1, rep cut1, rep site1] (rep r) := by
 unfold top_TopEditsMeet at h
 obtain ⟨r1, hv1, h⟩ := bind_some h
 refine FSpec.i Tryz.func4 rfl Tryz.ntmps4 rfl (fun F => (.sn mx (.asb (.nil (.seq (.sn mx (.c (.buildF (y := (⟨(⟨(0 : Int), Str.nil, (0 : Int)⟩ : Stamp), (0 : Int), Str.nil, Str.nil, Str.nil, (0 : Int)⟩ : DOp)) .none bu42 zc42 rfl .nil .nil) (.c (.buildSlice (xs := [_]) .none sl22 ty42 hz42 (.cons (.s rfl) .nil) rfl (by decide)) (.c (.call .none (edit_Check_ok hv1) (.cons (.s rfl) .nil)) (.nei rfl (.nil (.cb rfl h (fun _ h => ?_) fun _ h => ?_))))))))))))
 ·
  refine .sn mx (.asb (.nil (.ret (.thenRet ?_))))
  obtain rfl := some_eq h
  exact Ends.rt Tryz.results4 rfl
 ·
  obtain ⟨r2, hv3, h⟩ := bind_some h
  refine .skip (.then (.sn mx (.mv rfl (.mv rfl (.c (.call .none (edit_Merge_ok hv3) (.cons (.s rfl) (.cons (.s rfl) .nil))) (.mv rfl (.ex rfl rfl (.ex rfl rfl (.asn rfl (.asn rfl (.nil (.seq (.sn mx (.mv rfl (.nei rfl (.nil (.cb rfl h (fun _ h => ?_) fun _ h => ?_)))))))))))))))))
  ·
   refine .sn mx (.mv rfl (.ln sl22 rfl (.eqi rfl (.asn rfl (.nil (.ret (.thenRet ?_)))))))
   obtain rfl := some_eq h
   exact Ends.rt Tryz.results4 rfl
  ·
   obtain ⟨r3, hv5, h⟩ := bind_some h
   obtain ⟨alone1, hv6, h⟩ := bnd_some h
   obtain ⟨r4, hv7, h⟩ := bind_some h
   obtain ⟨r5, hv8, h⟩ := bind_some h
   refine .skip (.then (.sn mx (.mv rfl (.c (.call .none (edit_Check_ok hv5) (.cons (.s rfl) .nil)) (.eqi rfl (.ra hv6 rfl (.nil (.sn mx (.mv rfl (.mv rfl (.c (.call .none (edit_Merge_ok hv7) (.cons (.s rfl) (.cons (.s rfl) .nil))) (.mv rfl (.ex rfl rfl (.ex rfl rfl (.asn rfl (.asn rfl (.nil (.seq (.sn mx (.mv rfl (.mv rfl (.mg rfl rfl rfl (.c (.neI (.at rfl rfl) (.tmp rfl id) .i) (.c (.move (.at rfl rfl) (.tmp rfl id)) (.mg rfl rfl rfl (.mg rfl rfl rfl (.c (.callIf (.at rfl rfl) fnok17 (fun hg => slices_Equal_Op_ok ((fun hg => gd_some hv8 ((andT hg.1.2 (notT hg.2)))) hg)) (.cons (.tmp rfl id) (.cons (.tmp rfl id) .nil)) (fun h => h)) (.c (.not (.at rfl rfl) (.tmp rfl id)) (.c (.pickOr (.at rfl rfl) (.tmp rfl id) (.tmp rfl id)) (.pa rfl rfl (.nil (.cb rfl h (fun _ h => ?_) fun _ h => ?_))))))))))))))))))))))))))))))))
   ·
    refine .sn mx (.asb (.nil (.ret (.thenRet ?_))))
    obtain rfl := some_eq h
    exact Ends.rt Tryz.results4 rfl
   ·
    obtain ⟨r6, hv10, h⟩ := bind_some h
    obtain ⟨r7, hv11, h⟩ := bind_some h
    refine .skip (.then (.sn mx (.mv rfl (.mv rfl (.c (.call .none (edit_Merge_ok hv10) (.cons (.s rfl) (.cons (.s rfl) .nil))) (.mv rfl (.ex rfl rfl (.ex rfl rfl (.asn rfl (.asn rfl (.nil (.seq (.sn mx (.mv rfl (.eqi rfl (.mv rfl (.mg rfl rfl rfl (.pa rfl rfl (.mv rfl (.mg rfl rfl rfl (.c (.callIf (.at rfl rfl) fnok6 (fun hg => edit_Check_ok ((fun hg => gd_some hv11 (hg.2)) hg)) (.cons (.tmp rfl id) .nil) (fun h => h)) (.c (.eqI (.at rfl rfl) (.tmp rfl id) .i) (.pa rfl rfl (.nil ?_))))))))))))))))))))))))
    obtain ⟨o_12, h, hK12⟩ := bindR_some h
    refine .tJ (fun s => o_12 = Res.nx s) (.k2 3 4 rfl rfl (.k 11 rfl .nil)) SubB.nil ?_ (fun j_12 hj12 => ?_)
    ·
     refine .cb rfl h (fun _ h => ?_) fun _ h => ?_
     ·
      obtain ⟨r8, hv14, h⟩ := bind_some h
      obtain ⟨r9, hv15, h⟩ := bind_some h
      obtain ⟨r10, hv16, h⟩ := bind_some h
      refine .sn mx (.mv rfl (.mv rfl (.c (.call .none (edit_Merge_ok hv14) (.cons (.s rfl) (.cons (.s rfl) .nil))) (.mv rfl (.ex rfl rfl (.ex rfl rfl (.asn rfl (.asn rfl (.nil (.sn mx (.mv rfl (.mv rfl (.c (.call .none (edit_Merge_ok hv15) (.cons (.s rfl) (.cons (.s rfl) .nil))) (.mv rfl (.ex rfl rfl (.ex rfl rfl (.asn rfl (.asn rfl (.nil (.sn mx (.mv rfl (.nei rfl (.mv rfl (.mg rfl rfl rfl (.c (.neI (.at rfl rfl) (.tmp rfl id) .i) (.po rfl rfl (.mv rfl (.mg rfl rfl rfl (.mg rfl rfl rfl (.c (.callIf (.at rfl rfl) fnok17 (fun hg => slices_Equal_Op_ok ((fun hg => gd_some hv16 ((notT hg.2))) hg)) (.cons (.tmp rfl id) (.cons (.tmp rfl id) .nil)) (fun h => h)) (.c (.not (.at rfl rfl) (.tmp rfl id)) (.po rfl rfl (.nil (.cb rfl h (fun _ h => ?_) fun _ h => ?_))))))))))))))))))))))))))))))))))
      ·
       refine .sn mx (.asb (.nil (.ret (.thenRet ?_))))
       replace h := resb_ab hK12 (some_eq h)
       obtain rfl := some_eq h
       exact Ends.rt Tryz.results4 rfl
      ·
       exact .skip (Ends.j _ (some_eq h))
     ·
      exact .skip (Ends.j _ (some_eq h))
    ·
     have h := resb_nx hK12 hj12
     refine .sr [([], [21])] mx (.cW (.nilRow (T := 42) (α := DOp) rfl) (.nil (.nameRow (t := 21) (g := 5001) rfl rfl rfl (fun s5001 => (.seq (.sn mx (.mv rfl (.ln sl22 rfl (.mvi (.nil ?_))))))))))
     obtain ⟨j_18, h, hK18⟩ := bind_some h
     refine .thenJ (ι := (List DOp)) (fun j_18 => []) (fun j_18 => [(21, some (rowV 42 j_18))]) (fun s => j_18 = s) (.k2 4 11 rfl rfl .nil) SubB.nil ?_ (fun j_18' hj18 => ?_)
     ·
      refine .block (.anon (t := 21) (g := 5001) rfl rfl trivial rfl (.rforL h (fun p19_ => [(109, ⟨True, rep p19_.1⟩)]) (fun p19_ => [(21, some (rowV 42 p19_.2))]) (.k 109 rfl .nil) (.k 21 rfl .nil) (.k4 3 4 11 107 rfl rfl rfl rfl (.k 108 rfl .nil)) SubB.nil (fun p19_ o_19 h hD19 => (.nameRow (t := 21) (g := 5002) rfl rfl rfl (fun s5002 => (.sn mx (.lt rfl rfl (.nil (.seq (.cb rfl h (fun _ h => ?_) fun _ h => ?_))))))))))
      ·
       refine .skip (.then (.seq ?_))
       obtain ⟨j_21, h, hK21⟩ := bind_some h
       unfold top_TopEditsMeet_L1 at h
       refine .thenJ (ι := (List DOp)) (fun j_21 => []) (fun j_21 => [(21, some (rowV 42 j_21))]) (fun s => j_21 = s) (.k4 3 4 11 107 rfl rfl rfl rfl (.k2 108 109 rfl rfl .nil)) SubB.nil ?_ (fun j_21' hj21 => ?_)
       ·
        obtain ⟨hn22, h⟩ := need_some h
        obtain ⟨v1, hv23, h⟩ := bnd_some h
        refine .block (.sr [oo, oo, ([], [23]), ([23], [23])] mx (.ixA sl22 ty42 rfl rfl hn22 (.rlA hv23 ty42 rfl (.al zo42 rfl (.st ty42 rfl rfl rfl (.nil (.freeze (t := 23) rfl rfl (.k 5002 rfl .nil) rfl (.sn mx (.fa fd42_0 hfd42_0 rfl (.fa fd40_2 hfd40_2 rfl (.ld ty3 rfl (.mv rfl (.c (.le .none (.s rfl) (.s rfl)) (.nil (.cb rfl h (fun _ h => ?_) fun _ h => ?_)))))))))))))))
        ·
         obtain ⟨hn25, h⟩ := need_some h
         exact .rg [oo, oo, oo, ([5002], [121, 5002]), ([121], [21, 121])] mx (.mvA rfl (.ldA ty42 rfl (.cA (.buildSlice (xs := [_]) .none sl22 ty42 hz42 (.cons (.s rfl) .nil) rfl (by decide)) (.cW (.append (k := 5002) rk22 rfl (.told (.s rfl) rfl) (.s rfl) hn25) (.cW (.passRow rfl (.tmp rfl)) (.nil (.blkNormal (Ends.j _ (some_eq h)))))))))
        ·
         exact .skip (.blkNormal (.anon (t := 21) (g := 5002) rfl rfl trivial rfl (Ends.j _ (some_eq h))))
       ·
        subst hj21; have h := hK21; clear hK21
        exact .nameRow (t := 21) (g := 5003) rfl rfl rfl (fun s5003 => (.rn mx (.adi rfl (.mv rfl (.nil (.anon (t := 21) (g := 5003) rfl rfl trivial rfl (Ends.ag (some_eq h))))))))
      ·
       refine .exit (.thenExit (.thenExit (.blkExit (.anon (t := 21) (g := 5002) rfl rfl trivial rfl ?_))))
       replace h := hD19 _ (some_eq h)
       exact Ends.j _ (some_eq h)
     ·
      subst hj18; have h := hK18; clear hK18
      obtain ⟨r11, hv26, h⟩ := bind_some h
      refine .freezeRowA (t := 21) rfl rfl SubB.nil rfl (.sn mx (.mv rfl (.c (.call .none (edit_Seen_ok hv26) (.cons (.s rfl) .nil)) (.mv rfl (.ex rfl rfl (.ex rfl rfl (.asn rfl (.asn rfl (.nil (.seq (.sn mx (.mv rfl (.nei rfl (.nil (.cb rfl h (fun _ h => ?_) fun _ h => ?_)))))))))))))))
      ·
       refine .sn mx (.asb (.nil (.ret (.thenRet ?_))))
       obtain rfl := some_eq h
       exact Ends.rt Tryz.results4 rfl
      ·
       obtain ⟨r12, hv28, h⟩ := bind_some h
       obtain ⟨r13, hv29, h⟩ := bind_some h
       obtain ⟨r14, hv30, h⟩ := bind_some h
       refine .skip (.then (.sn mx (.mv rfl (.mv rfl (.c (.call .none (edit_Since_ok hv28) (.cons (.s rfl) (.cons (.s rfl) .nil))) (.mv rfl (.ex rfl rfl (.ex rfl rfl (.asn rfl (.asn rfl (.nil (.sn mx (.mv rfl (.mv rfl (.c (.call .none (edit_Merge_ok hv29) (.cons (.s rfl) (.cons (.s rfl) .nil))) (.mv rfl (.ex rfl rfl (.ex rfl rfl (.asn rfl (.asn rfl (.nil (.seq (.sn mx (.mv rfl (.nei rfl (.mv rfl (.mg rfl rfl rfl (.c (.neI (.at rfl rfl) (.tmp rfl id) .i) (.po rfl rfl (.mv rfl (.mg rfl rfl rfl (.mg rfl rfl rfl (.c (.callIf (.at rfl rfl) fnok17 (fun hg => slices_Equal_Op_ok ((fun hg => gd_some hv30 ((notT hg.2))) hg)) (.cons (.tmp rfl id) (.cons (.tmp rfl id) .nil)) (fun h => h)) (.c (.not (.at rfl rfl) (.tmp rfl id)) (.po rfl rfl (.mv rfl (.mg rfl rfl rfl (.c (.len (.at rfl rfl) sl22 (.tmp rfl id)) (.mg rfl rfl rfl (.c (.len (.at rfl rfl) sl22 (.tmp rfl id)) (.c (.addW (.at rfl rfl) (.tmp rfl id) (.tmp rfl id)) (.mg rfl rfl rfl (.c (.len (.at rfl rfl) sl22 (.tmp rfl id)) (.c (.neI (.at rfl rfl) (.tmp rfl id) (.tmp rfl id)) (.po rfl rfl (.nil (.cb rfl h (fun _ h => ?_) fun _ h => ?_)))))))))))))))))))))))))))))))))))))))))))))))
       ·
        refine .sn mx (.asb (.nil (.ret (.thenRet ?_))))
        obtain rfl := some_eq h
        exact Ends.rt Tryz.results4 rfl
       ·
        obtain ⟨r15, hv32, h⟩ := bind_some h
        refine .skip (.then (.sn mx (.mv rfl (.mv rfl (.c (.call .none (edit_Undo_ok hv32) (.cons (.s rfl) (.cons (.s rfl) .nil))) (.mv rfl (.ex rfl rfl (.ex rfl rfl (.asn rfl (.asn rfl (.nil (.seq (.sn mx (.mv rfl (.nei rfl (.nil (.cb rfl h (fun _ h => ?_) fun _ h => ?_)))))))))))))))))
        ·
         refine .sn mx (.asb (.nil (.ret (.thenRet ?_))))
         obtain rfl := some_eq h
         exact Ends.rt Tryz.results4 rfl
        ·
         obtain ⟨r16, hv34, h⟩ := bind_some h
         refine .skip (.then (.sn mx (.mv rfl (.mv rfl (.c (.call .none (edit_Redo_ok hv34) (.cons (.s rfl) (.cons (.s rfl) .nil))) (.mv rfl (.ex rfl rfl (.ex rfl rfl (.asn rfl (.asn rfl (.nil (.seq (.sn mx (.mv rfl (.eqi rfl (.mv rfl (.mg rfl rfl rfl (.c (.eqI (.at rfl rfl) (.tmp rfl id) .i) (.po rfl rfl (.nil (.cb rfl h (fun _ h => ?_) fun _ h => ?_)))))))))))))))))))))
         ·
          refine .sn mx (.mv rfl (.ln sl22 rfl (.eqi rfl (.asn rfl (.nil (.ret (.thenRet ?_)))))))
          obtain rfl := some_eq h
          exact Ends.rt Tryz.results4 rfl
         ·
          obtain ⟨r17, hv36, h⟩ := bind_some h
          obtain ⟨r18, hv37, h⟩ := bind_some h
          obtain ⟨r19, hv38, h⟩ := bind_some h
          refine .skip (.then (.sn mx (.mv rfl (.c (.call .none (edit_State_ok hv36) (.cons (.s rfl) .nil)) (.mv rfl (.ex rfl rfl (.ex rfl rfl (.asn rfl (.asn rfl (.nil (.sn mx (.mv rfl (.c (.call .none (edit_State_ok hv37) (.cons (.s rfl) .nil)) (.mv rfl (.ex rfl rfl (.ex rfl rfl (.asn rfl (.asn rfl (.nil (.sn mx (.mv rfl (.eqi rfl (.mv rfl (.mg rfl rfl rfl (.c (.eqI (.at rfl rfl) (.tmp rfl id) .i) (.pa rfl rfl (.mv rfl (.mg rfl rfl rfl (.c (.eqI (.at rfl rfl) (.tmp rfl id) .i) (.pa rfl rfl (.mv rfl (.mg rfl rfl rfl (.mg rfl rfl rfl (.c (.callIf (.at rfl rfl) fnok22 (fun hg => top_same_ok ((fun hg => gd_some hv38 (hg.2)) hg)) (.cons (.tmp rfl id) (.cons (.tmp rfl id) .nil)) (fun h => h)) (.pa rfl rfl (.asn rfl (.nil (.ret ?_))))))))))))))))))))))))))))))))))))))
          obtain rfl := some_eq h
          exact Ends.rt Tryz.results4 rfl


end Go.Proofs.YtlkebjlooppdlaaGreatDoor
