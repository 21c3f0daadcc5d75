/-
  The walks: what a function computes is what its plain function says (printed by a program of one's own).
-/
import Derived.Test.YtbahnfkccdlpnaaOrdWa1
set_option maxRecDepth 100000
set_option linter.unusedSimpArgs false
set_option linter.unusedVariables false
namespace Go.Proofs.Ytbahnfkccdlpnaa
open Go Go.DB Go.RowKit

theorem slices_IndexFunc_Link_ok {s1 : (List Link)} {f1 : (Link → Option Bool)} {r : Int}  (h : slices_IndexFunc_Link s1 f1 = some r) : FSpec Try.prog 112 [rep s1, fn1 Try.prog (rep (α := Bool)) f1] (rep r) := by
  unfold slices_IndexFunc_Link at h
  refine FSpec.intro (n := 19) fnok112 Try.func112 rfl Try.ntmps112 rfl (fun F => ?_)
  refine .seq ?_
  refine .region [] mixed (by kernel_rfl) ?_
  refine .cons (.assign .none (.int (by decide))) rfl ?_
  refine .nil ?_
  refine .then ?_
  refine .seq ?_
  refine .seq ?_
  refine .region [] mixed (by kernel_rfl) ?_
  refine .cons (.move .none (.s rfl)) rfl ?_
  refine .cons (.len .none sl23 (.s rfl)) rfl ?_
  refine .cons (.move .none (.int (by decide))) rfl ?_
  refine .nil ?_
  refine .then ?_
  obtain ⟨o_1, h, hK1⟩ := bindR_some h
  refine .thenJ (ι := Unit) (fun j_1 => []) (fun j_1 => []) (fun s => o_1 = Res.nx s) Sub.nil SubB.nil ?_ (fun j_1 hj1 => ?_)
  · skip
    refine .block ?_
    refine .rforEL h (fun p2_ => [(8, ⟨True, rep p2_.1⟩)]) (fun p2_ => []) (.cons (t := 8) rfl Sub.nil) SubB.nil (.cons (t := 0) rfl (.cons (t := 1) rfl (.cons (t := 7) rfl Sub.nil))) SubB.nil (fun p2_ o_2 h hD2 => ?_)
    refine .seq ?_
    refine .region [] mixed (by kernel_rfl) ?_
    refine .cons (.lt .none (.s rfl) (.s rfl)) rfl ?_
    refine .nil ?_
    refine .then ?_
    refine .seq ?_
    refine .cond (t := 9) rfl trivial (fun hb3 => ?_) (fun hb3 => ?_)
    · replace h := bif_t h hb3
      refine .skip ?_
      refine .then ?_
      refine .seq ?_
      obtain ⟨o_4, h, hK4⟩ := bindD_some h
      unfold slices_IndexFunc_Link_L1 at h
      refine .thenJ (ι := Unit) (fun j_4 => []) (fun j_4 => []) (fun s => o_4 = Res.nx s) (.cons (t := 0) rfl (.cons (t := 1) rfl (.cons (t := 7) rfl (.cons (t := 8) rfl Sub.nil)))) SubB.nil ?_ (fun j_4 hj4 => ?_)
      · skip
        refine .block ?_
        refine .seq ?_
        refine .region [] mixed (by kernel_rfl) ?_
        refine .cons (.move .none (.s rfl)) rfl ?_
        refine .cons (.assign .none (.s rfl)) rfl ?_
        refine .nil ?_
        refine .then ?_
        refine .seq ?_
        refine .region [] mixed (by kernel_rfl) ?_
        refine .cons (.move .none (.s rfl)) rfl ?_
        refine .cons (.move .none (.s rfl)) rfl ?_
        refine .cons (.move .none (.s rfl)) rfl ?_
        obtain ⟨hn5, h⟩ := need_some h
        refine .cons (.indexAddr .none sl23 ty79 (.s rfl) (.s rfl) (fun _ => hn5)) rfl ?_
        refine .cons (.load .none ty79 (.s rfl)) rfl ?_
        obtain ⟨r1, hv6, h⟩ := bind_some h
        refine .cons (.callV (gx s1 p2_.1, r1) .none (.s rfl) (fun _ => hv6) (.cons (.s rfl) .nil)) rfl ?_
        refine .nil ?_
        refine .then ?_
        refine .cond (t := 16) rfl trivial (fun hb7 => ?_) (fun hb7 => ?_)
        · replace h := bif_t h hb7
          refine .seq ?_
          refine .region [] mixed (by kernel_rfl) ?_
          refine .cons (.move .none (.s rfl)) rfl ?_
          refine .cons (.assign .none (.s rfl)) rfl ?_
          refine .nil ?_
          refine .then ?_
          refine .ret ?_
          refine .blkRet ?_
          refine .thenRet ?_
          refine .thenRet ?_
          refine .blkRet ?_
          refine .thenRet ?_
          replace h := resd_ab hK4 (some_eq h)
          replace h := hD2 _ (some_eq h)
          replace h := resb_ab hK1 (some_eq h)
          obtain rfl := some_eq h
          exact Ends.ret1 (.inl rfl) Try.results112 (ResOK.tmp rfl trivial Imp.refl)
        · replace h := bif_f h hb7
          refine .skip ?_
          refine .blkNormal ?_
          exact Ends.join _ (some_eq h) (.cons (t := 0) rfl (.cons (t := 1) rfl (.cons (t := 7) rfl (.cons (t := 8) rfl Sub.nil)))) SubB.nil
      · have h := resd_nx hK4 hj4
        refine .region [] mixed (by kernel_rfl) ?_
        refine .cons (.addW .none (.s rfl) (.int (by decide))) rfl ?_
        refine .cons (.move .none (.s rfl)) rfl ?_
        refine .nil ?_
        exact Ends.againL (some_eq h) (.cons (t := 8) rfl (.cons (t := 0) rfl (.cons (t := 1) rfl (.cons (t := 7) rfl Sub.nil)))) SubB.nil
    · replace h := bif_f h hb3
      refine .exit ?_
      refine .thenExit ?_
      refine .thenExit ?_
      refine .blkExit ?_
      replace h := hD2 _ (some_eq h)
      exact Ends.join _ (some_eq h) Sub.nil SubB.nil
  · have h := resb_nx hK1 hj1
    refine .seq ?_
    refine .region [] mixed (by kernel_rfl) ?_
    refine .cons (.assign .none (.int (by decide))) rfl ?_
    refine .nil ?_
    refine .then ?_
    refine .ret ?_
    obtain rfl := some_eq h
    exact Ends.ret1 (.inl rfl) Try.results112 (ResOK.tmp rfl trivial Imp.refl)

theorem slices_DeleteFunc_Link_ok {s1 : (List Link)} {del1 : (Link → Option Bool)} {r : (List Link)} {s42 : Value} (h : slices_DeleteFunc_Link s1 del1 = some r) : FSpecO Try.prog 86 [isV s42, fn1 Try.prog (rep (α := Bool)) del1] [(s42, rowV 79 s1)] (anyV) [none, some (rowV 79 r)] := by
  unfold slices_DeleteFunc_Link at h
  refine FSpecO.intro (n := 42) fnok86 Try.func86 rfl Try.ntmps86 rfl (fun F => ?_)
  refine .seq ?_
  refine .region [] mixed (by kernel_rfl) ?_
  refine .cons (.assign .none (.const (x := ([] : (List Link))) (fun M w => ⟨_, ⟨none, 0, rfl, Nat.le_refl _, by decide, rfl⟩, rfl⟩))) rfl ?_
  refine .nil ?_
  refine .then ?_
  refine .seq ?_
  refine .region [([], []), ([], []), ([42], []), ([], [])] mixed (by kernel_rfl) ?_
  refine .consA (.move .none (.s rfl)) rfl ?_
  refine .consA (.move .none (.s rfl)) rfl ?_
  obtain ⟨i1, hv1, h⟩ := bind_some h
  refine .consA (.callC .none fnok112 (fun hg => slices_IndexFunc_Link_ok  hv1) .rep (.lend (k := 42) (.told (.s rfl) rfl) (.cons (.s rfl) .nil))) rfl ?_
  refine .consA (.assign .none (.s rfl)) rfl ?_
  refine .nil ?_
  refine .then ?_
  refine .seq ?_
  refine .seq ?_
  refine .region [] mixed (by kernel_rfl) ?_
  refine .cons (.move .none (.s rfl)) rfl ?_
  refine .cons (.eqI .none (.s rfl) (.int (by decide))) rfl ?_
  refine .nil ?_
  refine .then ?_
  refine .cond (t := 12) rfl trivial (fun hb2 => ?_) (fun hb2 => ?_)
  · replace h := bif_t h hb2
    refine .seq ?_
    refine .region [] mixed (by kernel_rfl) ?_
    refine .cons (.move .none (.s rfl)) rfl ?_
    refine .cons (.assign .none (.s rfl)) rfl ?_
    refine .nil ?_
    refine .then ?_
    refine .ret ?_
    refine .thenRet ?_
    refine .anon (t := 4) (g := 42) rfl rfl trivial rfl ?_
    obtain rfl := some_eq h
    exact Ends.ret1O (.inl rfl) [42, 4] Try.results86 (by decide) (.skip (.res rfl rfl)) (ResOK.tmp rfl trivial (fun _ _ _ _ => trivial))
  · replace h := bif_f h hb2
    refine .skip ?_
    refine .then ?_
    refine .seq ?_
    refine .seq ?_
    refine .region [] mixed (by kernel_rfl) ?_
    refine .cons (.move .none (.s rfl)) rfl ?_
    refine .cons (.addW .none (.s rfl) (.int (by decide))) rfl ?_
    obtain ⟨j1, hv3, h⟩ := bnd_some h
    refine .cons (.re hv3 (.assign .none (.s rfl))) rfl ?_
    refine .nil ?_
    refine .then ?_
    obtain ⟨j_4, h, hK4⟩ := bind_some h
    refine .thenJ (ι := (Int × (List Link))) (fun j_4 => [(5, ⟨True, rep j_4.1⟩)]) (fun j_4 => [(42, some (CPred.at s42 (rowV 79 j_4.2)))]) (fun s => j_4 = s) (.cons (t := 0) rfl Sub.nil) SubB.nil ?_ (fun j_4' hj4 => ?_)
    · skip
      refine .block ?_
      refine .loopL h (fun s5_ => [(5, ⟨True, rep s5_.1⟩), (6, ⟨True, rep s5_.2.1⟩)]) (fun s5_ => [(42, some (CPred.at s42 (rowV 79 s5_.2.2)))]) (.cons (t := 5) rfl (.cons (t := 6) rfl Sub.nil)) (.cons (t := 42) rfl SubB.nil) (.cons (t := 0) rfl (.cons (t := 1) rfl Sub.nil)) SubB.nil (fun s5_ o_5 h hD5 => ?_)
      unfold slices_DeleteFunc_Link_L1 at h
      refine .seq ?_
      refine .seq ?_
      refine .region [([], []), ([], []), ([42], []), ([], [])] mixed (by kernel_rfl) ?_
      refine .consA (.move .none (.s rfl)) rfl ?_
      refine .consA (.move .none (.s rfl)) rfl ?_
      refine .consA (.lenO (k := 42) sl23 (.told (.s rfl) rfl)) rfl ?_
      refine .consA (.lt .none (.s rfl) (.s rfl)) rfl ?_
      refine .nil ?_
      refine .then ?_
      refine .cond (t := 19) rfl trivial (fun hb6 => ?_) (fun hb6 => ?_)
      · replace h := bif_t h hb6
        refine .skip ?_
        refine .then ?_
        refine .seq ?_
        obtain ⟨j_7, h, hK7⟩ := bind_some h
        refine .thenJ (ι := (Int × (List Link))) (fun j_7 => [(5, ⟨True, rep j_7.1⟩)]) (fun j_7 => [(42, some (CPred.at s42 (rowV 79 j_7.2)))]) (fun s => j_7 = s) (.cons (t := 0) rfl (.cons (t := 1) rfl (.cons (t := 6) rfl Sub.nil))) SubB.nil ?_ (fun j_7' hj7 => ?_)
        · skip
          refine .block ?_
          refine .seq ?_
          refine .region [([], []), ([], []), ([42], []), ([42], []), ([], [7]), ([7], [7])] mixed (by kernel_rfl) ?_
          refine .consA (.move .none (.s rfl)) rfl ?_
          refine .consA (.move .none (.s rfl)) rfl ?_
          obtain ⟨hn8, h⟩ := need_some h
          refine .consA (.indexAddrO (k := 42) .none sl23 ty79 (.s rfl) rfl (.s rfl) (fun _ => hn8)) rfl ?_
          obtain ⟨v1, hv9, h⟩ := bnd_some h
          refine .consA (.re hv9 (.loadElem0 (k := 42) .none ty79 (.s rfl) rfl (fun _ => hn8))) rfl ?_
          refine .consW (.alloc zo79 rfl) rfl rfl ?_
          refine .consN (.store ty79 rfl rfl (.s rfl)) rfl ?_
          refine .nil ?_
          refine .then ?_
          refine .freeze (t := 7) rfl rfl (.cons (t := 42) rfl SubB.nil) rfl ?_
          refine .seq ?_
          refine .region [] mixed (by kernel_rfl) ?_
          refine .cons (.move .none (.s rfl)) rfl ?_
          refine .cons (.load .none ty79 (.s rfl)) rfl ?_
          obtain ⟨r1, hv10, h⟩ := bind_some h
          refine .cons (.callV (v1, r1) .none (.s rfl) (fun _ => hv10) (.cons (.s rfl) .nil)) rfl ?_
          refine .cons (.not .none (.s rfl)) rfl ?_
          refine .nil ?_
          refine .then ?_
          refine .cond (t := 29) rfl trivial (fun hb11 => ?_) (fun hb11 => ?_)
          · replace h := bif_t h hb11
            refine .seq ?_
            refine .region [([], []), ([], []), ([], []), ([42], []), ([42], [42])] mixed (by kernel_rfl) ?_
            refine .consA (.move .none (.s rfl)) rfl ?_
            refine .consA (.move .none (.s rfl)) rfl ?_
            refine .consA (.load .none ty79 (.s rfl)) rfl ?_
            obtain ⟨hn12, h⟩ := need_some h
            refine .consA (.indexAddrO (k := 42) .none sl23 ty79 (.s rfl) rfl (.s rfl) (fun _ => hn12)) rfl ?_
            refine .consN (.storeElem0 (k := 42) ty79 (.s rfl) rfl (.s rfl) hn12) rfl ?_
            refine .nil ?_
            refine .then ?_
            obtain ⟨s2, hv13, h⟩ := bnd_some h
            refine .reB (t := 42) rfl (congrArg (fun y => CPred.at s42 (rowV 79 y)) hv13) ?_
            refine .region [] mixed (by kernel_rfl) ?_
            refine .cons (.move .none (.s rfl)) rfl ?_
            refine .cons (.addW .none (.s rfl) (.int (by decide))) rfl ?_
            obtain ⟨i2, hv14, h⟩ := bnd_some h
            refine .cons (.re hv14 (.assign .none (.s rfl))) rfl ?_
            refine .nil ?_
            refine .blkNormal ?_
            exact Ends.join _ (some_eq h) (.cons (t := 5) rfl (.cons (t := 0) rfl (.cons (t := 1) rfl (.cons (t := 6) rfl Sub.nil)))) (.cons (t := 42) rfl SubB.nil)
          · replace h := bif_f h hb11
            refine .skip ?_
            refine .blkNormal ?_
            exact Ends.join _ (some_eq h) (.cons (t := 5) rfl (.cons (t := 0) rfl (.cons (t := 1) rfl (.cons (t := 6) rfl Sub.nil)))) (.cons (t := 42) rfl SubB.nil)
        · subst hj7; have h := hK7; clear hK7
          refine .region [] mixed (by kernel_rfl) ?_
          refine .cons (.move .none (.s rfl)) rfl ?_
          refine .cons (.addW .none (.s rfl) (.int (by decide))) rfl ?_
          obtain ⟨j2, hv15, h⟩ := bnd_some h
          refine .cons (.re hv15 (.assign .none (.s rfl))) rfl ?_
          refine .nil ?_
          exact Ends.againL (some_eq h) (.cons (t := 5) rfl (.cons (t := 6) rfl (.cons (t := 0) rfl (.cons (t := 1) rfl Sub.nil)))) (.cons (t := 42) rfl SubB.nil)
      · replace h := bif_f h hb6
        refine .exit ?_
        refine .thenExit ?_
        refine .thenExit ?_
        refine .blkExit ?_
        replace h := hD5 _ (some_eq h)
        exact Ends.join _ (some_eq h) (.cons (t := 5) rfl (.cons (t := 0) rfl Sub.nil)) (.cons (t := 42) rfl SubB.nil)
    · subst hj4; have h := hK4; clear hK4
      refine .seq ?_
      refine .region [([], []), ([], []), ([42], []), ([42], [42])] mixed (by kernel_rfl) ?_
      refine .consA (.move .none (.s rfl)) rfl ?_
      refine .consA (.move .none (.s rfl)) rfl ?_
      obtain ⟨hn16, h⟩ := need_some h
      refine .consA (.sliceLend (k := 42) sl23 ty79 (.s rfl) rfl (.s rfl) rfl hn16) rfl ?_
      refine .consN (.clearPart (k := 42) sl23 zo79 (.s rfl) rfl hn16) rfl ?_
      refine .nil ?_
      refine .then ?_
      obtain ⟨s3, hv17, h⟩ := bnd_some h
      refine .reB (t := 42) rfl (congrArg (fun y => CPred.at s42 (rowV 79 y)) hv17) ?_
      refine .seq ?_
      refine .region [([], []), ([], []), ([42], [41, 42]), ([41], [4, 41])] mixed (by kernel_rfl) ?_
      refine .consA (.move .none (.s rfl)) rfl ?_
      refine .consA (.move .none (.s rfl)) rfl ?_
      obtain ⟨hn18, h⟩ := need_some h
      refine .consW (.sliceRow (k := 42) sl23 ty79 rfl (.s rfl) rfl rfl (.s rfl) hn18) rfl rfl ?_
      refine .consW (.passRow rfl (.tmp rfl)) rfl rfl ?_
      refine .nil ?_
      refine .then ?_
      obtain ⟨v2, hv19, h⟩ := bnd_some h
      refine .reB (t := 4) rfl (congrArg (rowV 79) hv19) ?_
      refine .nameRow (t := 4) (g := 5001) rfl rfl rfl (fun s5001 => ?_)
      refine .ret ?_
      refine .anon (t := 4) (g := 5001) rfl rfl trivial rfl ?_
      obtain rfl := some_eq h
      exact Ends.ret1O (.inl rfl) [42, 4] Try.results86 (by decide) (.skip (.res rfl rfl)) (ResOK.tmp rfl trivial (fun _ _ _ _ => trivial))

theorem ref_BestOf_1_ok {a1 : Int} {b1 : Int} {c0_1 : (List Int)} {c1_1 : (List Link)} {r : Int}  (h : ref_BestOf_1 a1 b1 c0_1 c1_1 = some r) : FSpec Try.prog 85 [rep a1, rep b1, ref c0_1, ref c1_1] (rep r) := by
  unfold ref_BestOf_1 at h
  refine FSpec.intro (n := 16) fnok85 Try.func85 rfl Try.ntmps85 rfl (fun F => ?_)
  refine .seq ?_
  refine .region [] mixed (by kernel_rfl) ?_
  refine .cons (.box .none (.s rfl)) rfl ?_
  refine .cons (.box .none (.s rfl)) rfl ?_
  refine .cons (.assign .none (.int (by decide))) rfl ?_
  refine .nil ?_
  refine .then ?_
  refine .seq ?_
  refine .region [([], []), ([], []), ([], []), ([], []), ([], []), ([], [12]), ([], []), ([12], [12]), ([], []), ([], [])] mixed (by kernel_rfl) ?_
  refine .consA (.load .none ty32 (.s rfl)) rfl ?_
  refine .consA (.load .none ty3 (.s rfl)) rfl ?_
  refine .consA (.load .none ty3 (.s rfl)) rfl ?_
  refine .consA (.buildSlice (xs := [_, _]) .none sl32 ty3 hz3 (.cons (.s rfl) (.cons (.s rfl) .nil)) rfl (by decide)) rfl ?_
  refine .consA (.load .none ty23 (.s rfl)) rfl ?_
  obtain ⟨r1, hv1, h⟩ := bind_some h
  refine .consW (.callO [] (slices_Clone_Link_ok hv1) (.cons (.s rfl) .nil) .nil rfl (by decide) (by decide) (by intro d h; cases h; decide)) rfl rfl ?_
  refine .consA (.makeFunc (ι := Link × Bool) (pre := fun i => (fun x0 => ref_BestOf_1_1 x0 a1 b1) i.1 = some i.2) (Ss := fun i => [rep i.1]) (S := fun i => rep i.2) .none fnok87 (fun i h => ref_BestOf_1_1_ok h) (.cons (.s rfl) (.cons (.s rfl) .nil))) rfl ?_
  obtain ⟨r2, hv2, h⟩ := bind_some h
  refine .consW (.tell (t := 12) rfl row_one rfl (by decide) (fun _ => StepOK.callO [12] ((slices_DeleteFunc_Link_ok hv2).frzO1) (.cons (.s rfl) (.cons (.s rfl) .nil)) (.cons (k := 12) rfl .nil) rfl (by decide) (by decide) (by intro d h; cases h; decide))) rfl rfl ?_
  obtain ⟨r3, hv3, h⟩ := bind_some h
  refine .consA (.call .none (ref_CrossingsOf_ok hv3) (.cons (.s rfl) (.cons (.s rfl) (.cons (.s rfl) .nil)))) rfl ?_
  refine .consA (.assign .none (.s rfl)) rfl ?_
  refine .nil ?_
  refine .then ?_
  refine .ret ?_
  obtain rfl := some_eq h
  exact Ends.ret1 (.inl rfl) Try.results85 (ResOK.tmp rfl trivial Imp.refl)

theorem ref_BestOf_2_ok {m1 : Int} {i1 : Int} {c0_1 : (List Int)} {c1_1 : (Arr 9 (Arr 9 Int))} {c2_1 : (List Int)} {r : (Int × (List Int))} {m42 : Nat} {s43 : Value} (h : ref_BestOf_2 m1 i1 c0_1 c1_1 c2_1 = some r) : FSpecO Try.prog 88 [rep m1, rep i1, ref c0_1, ref c1_1, isV (ptr m42 0)] [(ptr m42 0, cont 32 (⟨s43⟩ : Raw)), (s43, rowV 3 c2_1)] (rep r.1) [some (deep (fun z0 => cont 32 (⟨z0⟩ : Raw)) (rowV 3 r.2)), none] := by
  unfold ref_BestOf_2 at h
  refine FSpecO.intro (n := 42) fnok88 Try.func88 rfl Try.ntmps88 rfl (fun F => ?_)
  refine .seq ?_
  refine .region [] mixed (by kernel_rfl) ?_
  refine .cons (.assign .none (.int (by decide))) rfl ?_
  refine .nil ?_
  refine .then ?_
  refine .seq ?_
  refine .region [] mixed (by kernel_rfl) ?_
  refine .cons (.assign .none (.int (by decide))) rfl ?_
  refine .nil ?_
  refine .then ?_
  refine .seq ?_
  refine .seq ?_
  refine .region [] mixed (by kernel_rfl) ?_
  refine .cons (.load .none ty32 (.s rfl)) rfl ?_
  refine .cons (.len .none sl32 (.s rfl)) rfl ?_
  refine .cons (.move .none (.int (by decide))) rfl ?_
  refine .nil ?_
  refine .then ?_
  obtain ⟨j_1, h, hK1⟩ := bind_some h
  refine .thenJ (ι := Int) (fun j_1 => [(8, ⟨True, rep j_1⟩)]) (fun j_1 => []) (fun s => j_1 = s) (.cons (t := 0) rfl (.cons (t := 1) rfl (.cons (t := 4) rfl Sub.nil))) (.cons (t := 42) rfl (.cons (t := 43) rfl SubB.nil)) ?_ (fun j_1' hj1 => ?_)
  · skip
    refine .block ?_
    refine .rforL h (fun p2_ => [(12, ⟨True, rep p2_.1⟩), (8, ⟨True, rep p2_.2⟩)]) (fun p2_ => []) (.cons (t := 12) rfl (.cons (t := 8) rfl Sub.nil)) SubB.nil (.cons (t := 0) rfl (.cons (t := 1) rfl (.cons (t := 3) rfl (.cons (t := 4) rfl (.cons (t := 11) rfl Sub.nil))))) (.cons (t := 42) rfl (.cons (t := 43) rfl SubB.nil)) (fun p2_ o_2 h hD2 => ?_)
    refine .seq ?_
    refine .region [] mixed (by kernel_rfl) ?_
    refine .cons (.lt .none (.s rfl) (.s rfl)) rfl ?_
    refine .nil ?_
    refine .then ?_
    refine .seq ?_
    refine .cond (t := 13) rfl trivial (fun hb3 => ?_) (fun hb3 => ?_)
    · replace h := bif_t h hb3
      refine .skip ?_
      refine .then ?_
      refine .seq ?_
      obtain ⟨j_4, h, hK4⟩ := bind_some h
      unfold ref_BestOf_2_L1 at h
      refine .thenJ (ι := Int) (fun j_4 => [(8, ⟨True, rep j_4⟩)]) (fun j_4 => []) (fun s => j_4 = s) (.cons (t := 0) rfl (.cons (t := 1) rfl (.cons (t := 3) rfl (.cons (t := 4) rfl (.cons (t := 11) rfl (.cons (t := 12) rfl Sub.nil)))))) (.cons (t := 42) rfl (.cons (t := 43) rfl SubB.nil)) ?_ (fun j_4' hj4 => ?_)
      · skip
        refine .block ?_
        refine .seq ?_
        refine .region [] mixed (by kernel_rfl) ?_
        refine .cons (.move .none (.s rfl)) rfl ?_
        refine .cons (.assign .none (.s rfl)) rfl ?_
        refine .nil ?_
        refine .then ?_
        refine .seq ?_
        refine .region [] mixed (by kernel_rfl) ?_
        refine .cons (.move .none (.s rfl)) rfl ?_
        refine .cons (.move .none (.s rfl)) rfl ?_
        refine .cons (.neI .none (.s rfl) (.s rfl)) rfl ?_
        refine .cons (.move .none (.s rfl)) rfl ?_
        refine .cons (.move (.at rfl rfl) (.s rfl)) rfl ?_
        refine .cons (.move (.at rfl rfl) (.s rfl)) rfl ?_
        obtain ⟨hn5, h⟩ := need_some h
        refine .cons (.ishr (α := Int) (m := m1) (b := p2_.1) (.at rfl rfl) (.tmp rfl id) (.tmp rfl id) (fun hg => hn5 hg.2)) rfl ?_
        refine .cons (.iand (.at rfl rfl) (.tmp rfl id) (.int (by decide))) rfl ?_
        refine .cons (.eqI (.at rfl rfl) (.tmp rfl id) (.int (by decide))) rfl ?_
        refine .cons (.pickAnd .none (.s rfl) (.tmp rfl id)) rfl ?_
        refine .nil ?_
        refine .then ?_
        refine .cond (t := 24) rfl trivial (fun hb6 => ?_) (fun hb6 => ?_)
        · replace h := bif_t h hb6
          refine .region [] mixed (by kernel_rfl) ?_
          refine .cons (.move .none (.s rfl)) rfl ?_
          refine .cons (.move .none (.s rfl)) rfl ?_
          refine .cons (.move .none (.s rfl)) rfl ?_
          obtain ⟨hn7, h⟩ := need_some h
          refine .cons (.indexAddrA .none ao112 ty111 (.s rfl) (.s rfl) (fun _ => hn7)) rfl ?_
          obtain ⟨hn8, h⟩ := need_some h
          refine .cons (.indexAddrA .none ao111 ty3 (.s rfl) (.s rfl) (fun _ => hn8)) rfl ?_
          refine .cons (.load .none ty3 (.s rfl)) rfl ?_
          refine .cons (.addW .none (.s rfl) (.s rfl)) rfl ?_
          obtain ⟨c1, hv9, h⟩ := bnd_some h
          refine .cons (.re hv9 (.assign .none (.s rfl))) rfl ?_
          refine .nil ?_
          refine .blkNormal ?_
          exact Ends.join _ (some_eq h) (.cons (t := 8) rfl (.cons (t := 0) rfl (.cons (t := 1) rfl (.cons (t := 3) rfl (.cons (t := 4) rfl (.cons (t := 11) rfl (.cons (t := 12) rfl Sub.nil))))))) (.cons (t := 42) rfl (.cons (t := 43) rfl SubB.nil))
        · replace h := bif_f h hb6
          refine .skip ?_
          refine .blkNormal ?_
          exact Ends.join _ (some_eq h) (.cons (t := 8) rfl (.cons (t := 0) rfl (.cons (t := 1) rfl (.cons (t := 3) rfl (.cons (t := 4) rfl (.cons (t := 11) rfl (.cons (t := 12) rfl Sub.nil))))))) (.cons (t := 42) rfl (.cons (t := 43) rfl SubB.nil))
      · subst hj4; have h := hK4; clear hK4
        refine .region [] mixed (by kernel_rfl) ?_
        refine .cons (.addW .none (.s rfl) (.int (by decide))) rfl ?_
        refine .cons (.move .none (.s rfl)) rfl ?_
        refine .nil ?_
        exact Ends.againL (some_eq h) (.cons (t := 12) rfl (.cons (t := 8) rfl (.cons (t := 0) rfl (.cons (t := 1) rfl (.cons (t := 3) rfl (.cons (t := 4) rfl (.cons (t := 11) rfl Sub.nil))))))) (.cons (t := 42) rfl (.cons (t := 43) rfl SubB.nil))
    · replace h := bif_f h hb3
      refine .exit ?_
      refine .thenExit ?_
      refine .thenExit ?_
      refine .blkExit ?_
      replace h := hD2 _ (some_eq h)
      exact Ends.join _ (some_eq h) (.cons (t := 8) rfl (.cons (t := 0) rfl (.cons (t := 1) rfl (.cons (t := 4) rfl Sub.nil)))) (.cons (t := 42) rfl (.cons (t := 43) rfl SubB.nil))
  · subst hj1; have h := hK1; clear hK1
    refine .seq ?_
    refine .region [([], []), ([42], []), ([], []), ([], []), ([], []), ([], []), ([43], []), ([43], []), ([], []), ([], [])] mixed (by kernel_rfl) ?_
    refine .consA (.move .none (.s rfl)) rfl ?_
    refine .consA (.loadAt0 (k := 42) .none tr32 rfl (.s rfl)) rfl ?_
    refine .consA (.move .none (.s rfl)) rfl ?_
    refine .consA (.move .none (.s rfl)) rfl ?_
    obtain ⟨hn10, h⟩ := need_some h
    refine .consA (.ishl (α := Int) (m := 1) (b := i1) .none (.int (by decide)) (.s rfl) (fun _ => hn10)) rfl ?_
    refine .consA (.ior .none (.s rfl) (.s rfl)) rfl ?_
    obtain ⟨hn11, h⟩ := need_some h
    refine .consA (.indexAddrO (k := 43) .none sl32 ty3 (.s rfl) rfl (.s rfl) (fun _ => hn11)) rfl ?_
    refine .consA (.loadElem0 (k := 43) .none ty3 (.s rfl) rfl (fun _ => hn11)) rfl ?_
    refine .consA (.addW .none (.s rfl) (.s rfl)) rfl ?_
    refine .consA (.assign .none (.s rfl)) rfl ?_
    refine .nil ?_
    refine .then ?_
    refine .ret ?_
    refine .close (k := 42) (g := 43) (fun z => cont 32 (⟨z⟩ : Raw)) rfl rfl rfl ?_
    obtain rfl := some_eq h
    exact Ends.ret1O (.inl rfl) [42, 43] Try.results88 (by decide) (.held rfl (.skip .nil)) (ResOK.tmp rfl trivial Imp.refl)

theorem ref_BestOf_2r_ok {m1 : Int} {i1 : Int} {c0_1 : (List Int)} {c1_1 : (Arr 9 (Arr 9 Int))} {c2_1 : (List Int)} {r : Int}  (h : ref_BestOf_2r m1 i1 c0_1 c1_1 c2_1 = some r) : FSpec Try.prog 88 [rep m1, rep i1, ref c0_1, ref c1_1, ref c2_1] (rep r) := by
  unfold ref_BestOf_2r at h
  refine FSpec.intro (n := 42) fnok88 Try.func88 rfl Try.ntmps88 rfl (fun F => ?_)
  refine .seq ?_
  refine .region [] mixed (by kernel_rfl) ?_
  refine .cons (.assign .none (.int (by decide))) rfl ?_
  refine .nil ?_
  refine .then ?_
  refine .seq ?_
  refine .region [] mixed (by kernel_rfl) ?_
  refine .cons (.assign .none (.int (by decide))) rfl ?_
  refine .nil ?_
  refine .then ?_
  refine .seq ?_
  refine .seq ?_
  refine .region [] mixed (by kernel_rfl) ?_
  refine .cons (.load .none ty32 (.s rfl)) rfl ?_
  refine .cons (.len .none sl32 (.s rfl)) rfl ?_
  refine .cons (.move .none (.int (by decide))) rfl ?_
  refine .nil ?_
  refine .then ?_
  obtain ⟨j_1, h, hK1⟩ := bind_some h
  refine .thenJ (ι := Int) (fun j_1 => [(8, ⟨True, rep j_1⟩)]) (fun j_1 => []) (fun s => j_1 = s) (.cons (t := 0) rfl (.cons (t := 1) rfl (.cons (t := 4) rfl Sub.nil))) SubB.nil ?_ (fun j_1' hj1 => ?_)
  · skip
    refine .block ?_
    refine .rforL h (fun p2_ => [(12, ⟨True, rep p2_.1⟩), (8, ⟨True, rep p2_.2⟩)]) (fun p2_ => []) (.cons (t := 12) rfl (.cons (t := 8) rfl Sub.nil)) SubB.nil (.cons (t := 0) rfl (.cons (t := 1) rfl (.cons (t := 3) rfl (.cons (t := 4) rfl (.cons (t := 11) rfl Sub.nil))))) SubB.nil (fun p2_ o_2 h hD2 => ?_)
    refine .seq ?_
    refine .region [] mixed (by kernel_rfl) ?_
    refine .cons (.lt .none (.s rfl) (.s rfl)) rfl ?_
    refine .nil ?_
    refine .then ?_
    refine .seq ?_
    refine .cond (t := 13) rfl trivial (fun hb3 => ?_) (fun hb3 => ?_)
    · replace h := bif_t h hb3
      refine .skip ?_
      refine .then ?_
      refine .seq ?_
      obtain ⟨j_4, h, hK4⟩ := bind_some h
      unfold ref_BestOf_2r_L1 at h
      refine .thenJ (ι := Int) (fun j_4 => [(8, ⟨True, rep j_4⟩)]) (fun j_4 => []) (fun s => j_4 = s) (.cons (t := 0) rfl (.cons (t := 1) rfl (.cons (t := 3) rfl (.cons (t := 4) rfl (.cons (t := 11) rfl (.cons (t := 12) rfl Sub.nil)))))) SubB.nil ?_ (fun j_4' hj4 => ?_)
      · skip
        refine .block ?_
        refine .seq ?_
        refine .region [] mixed (by kernel_rfl) ?_
        refine .cons (.move .none (.s rfl)) rfl ?_
        refine .cons (.assign .none (.s rfl)) rfl ?_
        refine .nil ?_
        refine .then ?_
        refine .seq ?_
        refine .region [] mixed (by kernel_rfl) ?_
        refine .cons (.move .none (.s rfl)) rfl ?_
        refine .cons (.move .none (.s rfl)) rfl ?_
        refine .cons (.neI .none (.s rfl) (.s rfl)) rfl ?_
        refine .cons (.move .none (.s rfl)) rfl ?_
        refine .cons (.move (.at rfl rfl) (.s rfl)) rfl ?_
        refine .cons (.move (.at rfl rfl) (.s rfl)) rfl ?_
        obtain ⟨hn5, h⟩ := need_some h
        refine .cons (.ishr (α := Int) (m := m1) (b := p2_.1) (.at rfl rfl) (.tmp rfl id) (.tmp rfl id) (fun hg => hn5 hg.2)) rfl ?_
        refine .cons (.iand (.at rfl rfl) (.tmp rfl id) (.int (by decide))) rfl ?_
        refine .cons (.eqI (.at rfl rfl) (.tmp rfl id) (.int (by decide))) rfl ?_
        refine .cons (.pickAnd .none (.s rfl) (.tmp rfl id)) rfl ?_
        refine .nil ?_
        refine .then ?_
        refine .cond (t := 24) rfl trivial (fun hb6 => ?_) (fun hb6 => ?_)
        · replace h := bif_t h hb6
          refine .region [] mixed (by kernel_rfl) ?_
          refine .cons (.move .none (.s rfl)) rfl ?_
          refine .cons (.move .none (.s rfl)) rfl ?_
          refine .cons (.move .none (.s rfl)) rfl ?_
          obtain ⟨hn7, h⟩ := need_some h
          refine .cons (.indexAddrA .none ao112 ty111 (.s rfl) (.s rfl) (fun _ => hn7)) rfl ?_
          obtain ⟨hn8, h⟩ := need_some h
          refine .cons (.indexAddrA .none ao111 ty3 (.s rfl) (.s rfl) (fun _ => hn8)) rfl ?_
          refine .cons (.load .none ty3 (.s rfl)) rfl ?_
          refine .cons (.addW .none (.s rfl) (.s rfl)) rfl ?_
          obtain ⟨c1, hv9, h⟩ := bnd_some h
          refine .cons (.re hv9 (.assign .none (.s rfl))) rfl ?_
          refine .nil ?_
          refine .blkNormal ?_
          exact Ends.join _ (some_eq h) (.cons (t := 8) rfl (.cons (t := 0) rfl (.cons (t := 1) rfl (.cons (t := 3) rfl (.cons (t := 4) rfl (.cons (t := 11) rfl (.cons (t := 12) rfl Sub.nil))))))) SubB.nil
        · replace h := bif_f h hb6
          refine .skip ?_
          refine .blkNormal ?_
          exact Ends.join _ (some_eq h) (.cons (t := 8) rfl (.cons (t := 0) rfl (.cons (t := 1) rfl (.cons (t := 3) rfl (.cons (t := 4) rfl (.cons (t := 11) rfl (.cons (t := 12) rfl Sub.nil))))))) SubB.nil
      · subst hj4; have h := hK4; clear hK4
        refine .region [] mixed (by kernel_rfl) ?_
        refine .cons (.addW .none (.s rfl) (.int (by decide))) rfl ?_
        refine .cons (.move .none (.s rfl)) rfl ?_
        refine .nil ?_
        exact Ends.againL (some_eq h) (.cons (t := 12) rfl (.cons (t := 8) rfl (.cons (t := 0) rfl (.cons (t := 1) rfl (.cons (t := 3) rfl (.cons (t := 4) rfl (.cons (t := 11) rfl Sub.nil))))))) SubB.nil
    · replace h := bif_f h hb3
      refine .exit ?_
      refine .thenExit ?_
      refine .thenExit ?_
      refine .blkExit ?_
      replace h := hD2 _ (some_eq h)
      exact Ends.join _ (some_eq h) (.cons (t := 8) rfl (.cons (t := 0) rfl (.cons (t := 1) rfl (.cons (t := 4) rfl Sub.nil)))) SubB.nil
  · subst hj1; have h := hK1; clear hK1
    refine .seq ?_
    refine .region [] mixed (by kernel_rfl) ?_
    refine .cons (.move .none (.s rfl)) rfl ?_
    refine .cons (.load .none ty32 (.s rfl)) rfl ?_
    refine .cons (.move .none (.s rfl)) rfl ?_
    refine .cons (.move .none (.s rfl)) rfl ?_
    obtain ⟨hn10, h⟩ := need_some h
    refine .cons (.ishl (α := Int) (m := 1) (b := i1) .none (.int (by decide)) (.s rfl) (fun _ => hn10)) rfl ?_
    refine .cons (.ior .none (.s rfl) (.s rfl)) rfl ?_
    obtain ⟨hn11, h⟩ := need_some h
    refine .cons (.indexAddr .none sl32 ty3 (.s rfl) (.s rfl) (fun _ => hn11)) rfl ?_
    refine .cons (.load .none ty3 (.s rfl)) rfl ?_
    refine .cons (.addW .none (.s rfl) (.s rfl)) rfl ?_
    refine .cons (.assign .none (.s rfl)) rfl ?_
    refine .nil ?_
    refine .then ?_
    refine .ret ?_
    obtain rfl := some_eq h
    exact Ends.ret1 (.inl rfl) Try.results88 (ResOK.tmp rfl trivial Imp.refl)

set_option maxHeartbeats 4000000 in
theorem ref_BestOf_ok {upper1 : (List Int)} {lower1 : (List Int)} {l1 : (List Link)} {r : ((List Int) × Int)}  (h : ref_BestOf upper1 lower1 l1 = some r) : FSpec Try.prog 46 [rep upper1, rep lower1, rep l1] (tup [rep r.1, rep r.2]) := by
  unfold ref_BestOf at h
  refine FSpec.intro (n := 137) fnok46 Try.func46 rfl Try.ntmps46 rfl (fun F => ?_)
  refine .seq ?_
  refine .region [] mixed (by kernel_rfl) ?_
  refine .cons (.box .none (.s rfl)) rfl ?_
  refine .cons (.box .none (.s rfl)) rfl ?_
  refine .cons (.assign .none (.const (x := ([] : (List Int))) (fun M w => ⟨_, ⟨none, 0, rfl, Nat.le_refl _, by decide, rfl⟩, rfl⟩))) rfl ?_
  refine .cons (.assign .none (.int (by decide))) rfl ?_
  refine .nil ?_
  refine .then ?_
  refine .seq ?_
  refine .region [([], []), ([], []), ([], []), ([], [8]), ([8], [8])] mixed (by kernel_rfl) ?_
  refine .consA (.move .none (.s rfl)) rfl ?_
  obtain ⟨r1, hv1, h⟩ := bind_some h
  refine .consA (.call .none (slices_Values_int_ok hv1) (.cons (.s rfl) .nil)) rfl ?_
  obtain ⟨r2, hv2, h⟩ := bind_some h
  refine .consA (.call .none (slices_Sorted_int_ok hv2).frz (.cons (.s rfl) .nil)) rfl ?_
  refine .consW (.alloc zo32 rfl) rfl rfl ?_
  refine .consN (.store ty32 rfl rfl (.s rfl)) rfl ?_
  refine .nil ?_
  refine .then ?_
  refine .freeze (t := 8) rfl rfl SubB.nil rfl ?_
  refine .seq ?_
  refine .region [] mixed (by kernel_rfl) ?_
  refine .cons (.makeFunc (ι := Int × Int × Int) (pre := fun i => (fun x0 x1 => ref_BestOf_1 x0 x1 upper1 l1) i.1 i.2.1 = some i.2.2) (Ss := fun i => [rep i.1, rep i.2.1]) (S := fun i => rep i.2.2) .none fnok85 (fun i h => ref_BestOf_1_ok h) (.cons (.s rfl) (.cons (.s rfl) .nil))) rfl ?_
  refine .cons (.assign .none (.s rfl)) rfl ?_
  refine .nil ?_
  refine .then ?_
  refine .seq ?_
  refine .region [([], [10])] mixed (by kernel_rfl) ?_
  refine .consW (.alloc zo112 rfl) rfl rfl ?_
  refine .nil ?_
  refine .then ?_
  obtain ⟨cost1, hv3, h⟩ := bnd_some h
  refine .reB (t := 10) rfl (congrArg (cont 112) hv3) ?_
  refine .nameBox (t := 10) (g := 5001) rfl rfl (fun m5001 => ?_)
  refine .seq ?_
  refine .seq ?_
  refine .region [] mixed (by kernel_rfl) ?_
  refine .cons (.load .none ty32 (.s rfl)) rfl ?_
  refine .cons (.len .none sl32 (.s rfl)) rfl ?_
  refine .cons (.move .none (.int (by decide))) rfl ?_
  refine .nil ?_
  refine .then ?_
  obtain ⟨j_4, h, hK4⟩ := bind_some h
  refine .thenJ (ι := (Arr 9 (Arr 9 Int))) (fun j_4 => []) (fun j_4 => [(5001, some (boxAt m5001 112 j_4))]) (fun s => j_4 = s) (.cons (t := 8) rfl (.cons (t := 10) rfl Sub.nil)) SubB.nil ?_ (fun j_4' hj4 => ?_)
  · skip
    refine .block ?_
    refine .rforL h (fun p5_ => [(31, ⟨True, rep p5_.1⟩)]) (fun p5_ => [(5001, some (boxAt m5001 112 p5_.2))]) (.cons (t := 31) rfl Sub.nil) (.cons (t := 5001) rfl SubB.nil) (.cons (t := 3) rfl (.cons (t := 5) rfl (.cons (t := 8) rfl (.cons (t := 9) rfl (.cons (t := 10) rfl (.cons (t := 29) rfl (.cons (t := 30) rfl Sub.nil))))))) SubB.nil (fun p5_ o_5 h hD5 => ?_)
    refine .seq ?_
    refine .region [] mixed (by kernel_rfl) ?_
    refine .cons (.lt .none (.s rfl) (.s rfl)) rfl ?_
    refine .nil ?_
    refine .then ?_
    refine .seq ?_
    refine .cond (t := 32) rfl trivial (fun hb6 => ?_) (fun hb6 => ?_)
    · replace h := bif_t h hb6
      refine .skip ?_
      refine .then ?_
      refine .seq ?_
      obtain ⟨j_7, h, hK7⟩ := bind_some h
      unfold ref_BestOf_L1 at h
      refine .thenJ (ι := (Arr 9 (Arr 9 Int))) (fun j_7 => []) (fun j_7 => [(5001, some (boxAt m5001 112 j_7))]) (fun s => j_7 = s) (.cons (t := 3) rfl (.cons (t := 5) rfl (.cons (t := 8) rfl (.cons (t := 9) rfl (.cons (t := 10) rfl (.cons (t := 29) rfl (.cons (t := 30) rfl (.cons (t := 31) rfl Sub.nil)))))))) SubB.nil ?_ (fun j_7' hj7 => ?_)
      · skip
        refine .block ?_
        refine .seq ?_
        refine .region [] mixed (by kernel_rfl) ?_
        refine .cons (.move .none (.s rfl)) rfl ?_
        obtain ⟨hn8, h⟩ := need_some h
        refine .cons (.indexAddr .none sl32 ty3 (.s rfl) (.s rfl) (fun _ => hn8)) rfl ?_
        refine .cons (.load .none ty3 (.s rfl)) rfl ?_
        refine .cons (.assign .none (.s rfl)) rfl ?_
        refine .cons (.assign .none (.s rfl)) rfl ?_
        refine .nil ?_
        refine .then ?_
        refine .seq ?_
        refine .region [] mixed (by kernel_rfl) ?_
        refine .cons (.load .none ty32 (.s rfl)) rfl ?_
        refine .cons (.len .none sl32 (.s rfl)) rfl ?_
        refine .cons (.move .none (.int (by decide))) rfl ?_
        refine .nil ?_
        refine .then ?_
        refine .block ?_
        refine .rforL h (fun p9_ => [(38, ⟨True, rep p9_.1⟩)]) (fun p9_ => [(5001, some (boxAt m5001 112 p9_.2))]) (.cons (t := 38) rfl Sub.nil) (.cons (t := 5001) rfl SubB.nil) (.cons (t := 3) rfl (.cons (t := 5) rfl (.cons (t := 8) rfl (.cons (t := 9) rfl (.cons (t := 10) rfl (.cons (t := 11) rfl (.cons (t := 12) rfl (.cons (t := 29) rfl (.cons (t := 30) rfl (.cons (t := 31) rfl (.cons (t := 36) rfl (.cons (t := 37) rfl Sub.nil)))))))))))) SubB.nil (fun p9_ o_9 h hD9 => ?_)
        refine .seq ?_
        refine .region [] mixed (by kernel_rfl) ?_
        refine .cons (.lt .none (.s rfl) (.s rfl)) rfl ?_
        refine .nil ?_
        refine .then ?_
        refine .seq ?_
        refine .cond (t := 39) rfl trivial (fun hb10 => ?_) (fun hb10 => ?_)
        · replace h := bif_t h hb10
          refine .skip ?_
          refine .then ?_
          refine .seq ?_
          obtain ⟨j_11, h, hK11⟩ := bind_some h
          unfold ref_BestOf_L2 at h
          refine .thenJ (ι := (Arr 9 (Arr 9 Int))) (fun j_11 => []) (fun j_11 => [(5001, some (boxAt m5001 112 j_11))]) (fun s => j_11 = s) (.cons (t := 3) rfl (.cons (t := 5) rfl (.cons (t := 8) rfl (.cons (t := 9) rfl (.cons (t := 10) rfl (.cons (t := 11) rfl (.cons (t := 12) rfl (.cons (t := 29) rfl (.cons (t := 30) rfl (.cons (t := 31) rfl (.cons (t := 36) rfl (.cons (t := 37) rfl (.cons (t := 38) rfl Sub.nil))))))))))))) SubB.nil ?_ (fun j_11' hj11 => ?_)
          · skip
            refine .block ?_
            refine .seq ?_
            refine .region [] mixed (by kernel_rfl) ?_
            refine .cons (.move .none (.s rfl)) rfl ?_
            obtain ⟨hn12, h⟩ := need_some h
            refine .cons (.indexAddr .none sl32 ty3 (.s rfl) (.s rfl) (fun _ => hn12)) rfl ?_
            refine .cons (.load .none ty3 (.s rfl)) rfl ?_
            refine .cons (.assign .none (.s rfl)) rfl ?_
            refine .cons (.assign .none (.s rfl)) rfl ?_
            refine .nil ?_
            refine .then ?_
            refine .seq ?_
            refine .region [] mixed (by kernel_rfl) ?_
            refine .cons (.move .none (.s rfl)) rfl ?_
            refine .cons (.move .none (.s rfl)) rfl ?_
            refine .cons (.neI .none (.s rfl) (.s rfl)) rfl ?_
            refine .nil ?_
            refine .then ?_
            refine .cond (t := 45) rfl trivial (fun hb13 => ?_) (fun hb13 => ?_)
            · replace h := bif_t h hb13
              refine .region [([], []), ([], []), ([], []), ([], []), ([], []), ([], []), ([], []), ([], []), ([5001], [5001])] mixed (by kernel_rfl) ?_
              refine .consA (.move .none (.s rfl)) rfl ?_
              refine .consA (.move .none (.s rfl)) rfl ?_
              refine .consA (.move .none (.s rfl)) rfl ?_
              refine .consA (.move .none (.s rfl)) rfl ?_
              refine .consA (.move .none (.s rfl)) rfl ?_
              obtain ⟨r3, hv14, h⟩ := bind_some h
              refine .consA (.callV (gx r2 p5_.1, gx r2 p9_.1, r3) .none (.s rfl) (fun _ => hv14) (.cons (.s rfl) (.cons (.s rfl) .nil))) rfl ?_
              obtain ⟨hn15, h⟩ := need_some h
              refine .consA (.indexPtrD .none ao112 ty111 (.s rfl) (.s rfl) (fun _ => hn15)) rfl ?_
              obtain ⟨hn16, h⟩ := need_some h
              refine .consA (.indexPtrD .none ao111 ty3 (.s rfl) (.s rfl) (fun _ => hn16)) rfl ?_
              refine .consN (.storeAt (g := 5001) ty3 rfl (.s rfl) (SetField.comp (HasField.arrD hn15) (SetField.arrD hn15) (SetField.arrD hn16)) (.s rfl)) rfl ?_
              refine .nil ?_
              refine .blkNormal ?_
              exact Ends.join _ (some_eq h) (.cons (t := 3) rfl (.cons (t := 5) rfl (.cons (t := 8) rfl (.cons (t := 9) rfl (.cons (t := 10) rfl (.cons (t := 11) rfl (.cons (t := 12) rfl (.cons (t := 29) rfl (.cons (t := 30) rfl (.cons (t := 31) rfl (.cons (t := 36) rfl (.cons (t := 37) rfl (.cons (t := 38) rfl Sub.nil))))))))))))) (.cons (t := 5001) rfl SubB.nil)
            · replace h := bif_f h hb13
              refine .skip ?_
              refine .blkNormal ?_
              exact Ends.join _ (some_eq h) (.cons (t := 3) rfl (.cons (t := 5) rfl (.cons (t := 8) rfl (.cons (t := 9) rfl (.cons (t := 10) rfl (.cons (t := 11) rfl (.cons (t := 12) rfl (.cons (t := 29) rfl (.cons (t := 30) rfl (.cons (t := 31) rfl (.cons (t := 36) rfl (.cons (t := 37) rfl (.cons (t := 38) rfl Sub.nil))))))))))))) (.cons (t := 5001) rfl SubB.nil)
          · subst hj11; have h := hK11; clear hK11
            refine .region [] mixed (by kernel_rfl) ?_
            refine .cons (.addW .none (.s rfl) (.int (by decide))) rfl ?_
            refine .cons (.move .none (.s rfl)) rfl ?_
            refine .nil ?_
            exact Ends.againL (some_eq h) (.cons (t := 38) rfl (.cons (t := 3) rfl (.cons (t := 5) rfl (.cons (t := 8) rfl (.cons (t := 9) rfl (.cons (t := 10) rfl (.cons (t := 11) rfl (.cons (t := 12) rfl (.cons (t := 29) rfl (.cons (t := 30) rfl (.cons (t := 31) rfl (.cons (t := 36) rfl (.cons (t := 37) rfl Sub.nil))))))))))))) (.cons (t := 5001) rfl SubB.nil)
        · replace h := bif_f h hb10
          refine .exit ?_
          refine .thenExit ?_
          refine .thenExit ?_
          refine .blkExit ?_
          refine .blkNormal ?_
          replace h := hD9 _ (some_eq h)
          exact Ends.join _ (some_eq h) (.cons (t := 3) rfl (.cons (t := 5) rfl (.cons (t := 8) rfl (.cons (t := 9) rfl (.cons (t := 10) rfl (.cons (t := 29) rfl (.cons (t := 30) rfl (.cons (t := 31) rfl Sub.nil)))))))) (.cons (t := 5001) rfl SubB.nil)
      · subst hj7; have h := hK7; clear hK7
        refine .region [] mixed (by kernel_rfl) ?_
        refine .cons (.addW .none (.s rfl) (.int (by decide))) rfl ?_
        refine .cons (.move .none (.s rfl)) rfl ?_
        refine .nil ?_
        exact Ends.againL (some_eq h) (.cons (t := 31) rfl (.cons (t := 3) rfl (.cons (t := 5) rfl (.cons (t := 8) rfl (.cons (t := 9) rfl (.cons (t := 10) rfl (.cons (t := 29) rfl (.cons (t := 30) rfl Sub.nil)))))))) (.cons (t := 5001) rfl SubB.nil)
    · replace h := bif_f h hb6
      refine .exit ?_
      refine .thenExit ?_
      refine .thenExit ?_
      refine .blkExit ?_
      replace h := hD5 _ (some_eq h)
      exact Ends.join _ (some_eq h) (.cons (t := 8) rfl (.cons (t := 10) rfl Sub.nil)) (.cons (t := 5001) rfl SubB.nil)
  · subst hj4; have h := hK4; clear hK4
    refine .freezeBox (g := 5001) (ts := [10]) rfl (.cons (t := 10) rfl trivial .nil) SubB.nil rfl ?_
    refine .seq ?_
    refine .region [] mixed (by kernel_rfl) ?_
    refine .cons (.load .none ty32 (.s rfl)) rfl ?_
    refine .cons (.len .none sl32 (.s rfl)) rfl ?_
    obtain ⟨hn17, h⟩ := need_some h
    refine .cons (.ishl (α := Int) (m := 1) (b := (r2.length : Int)) .none (.int (by decide)) (.s rfl) (fun _ => hn17)) rfl ?_
    refine .cons (.subW .none (.s rfl) (.int (by decide))) rfl ?_
    obtain ⟨full1, hv18, h⟩ := bnd_some h
    refine .cons (.re hv18 (.assign .none (.s rfl))) rfl ?_
    refine .nil ?_
    refine .then ?_
    refine .seq ?_
    refine .region [([], []), ([], []), ([], [62]), ([], [16]), ([16, 62], [16, 62])] mixed (by kernel_rfl) ?_
    refine .consA (.move .none (.s rfl)) rfl ?_
    obtain ⟨v1, hv19, h⟩ := bnd_some h
    refine .consA (.re hv19 (.addW .none (.s rfl) (.int (by decide)))) rfl ?_
    obtain ⟨hn20, h⟩ := need_some h
    refine .consW (.makeSlice rk32 zo3 rfl (.s rfl) (.s rfl) hn20) rfl rfl ?_
    refine .consW (.alloc zr32 rfl) rfl rfl ?_
    refine .consN (.storeRow0 (k := 16) (t := 62) ty32 rfl rfl rfl rfl) rfl ?_
    refine .nil ?_
    refine .then ?_
    refine .nameAt (t := 16) (g := 5002) rfl rfl (isBox_deep fun _ => isBox_cont) rfl (fun m5002 => ?_)
    refine .open (k := 5002) (g := 5003) rfl rfl (fun s5003 => ?_)
    refine .seq ?_
    refine .region [] mixed (by kernel_rfl) ?_
    refine .cons (.makeFuncC (Cs := [ref r2, ref j_4, isV (ptr m5002 0)]) .none (.cons (.s rfl) (.cons (.s rfl) (.cons (.s rfl) .nil)))) rfl ?_
    refine .cons (.assign .none (.s rfl)) rfl ?_
    refine .nil ?_
    refine .then ?_
    obtain ⟨c1, hv21, h⟩ := bnd_some h
    refine .reB (t := 5003) rfl (congrArg (fun y => CPred.at s5003 (rowV 3 y)) hv21) ?_
    refine .seq ?_
    refine .seq ?_
    refine .region [] mixed (by kernel_rfl) ?_
    refine .cons (.move .none (.s rfl)) rfl ?_
    refine .cons (.subW .none (.s rfl) (.int (by decide))) rfl ?_
    obtain ⟨m1, hv22, h⟩ := bnd_some h
    refine .cons (.re hv22 (.assign .none (.s rfl))) rfl ?_
    refine .nil ?_
    refine .then ?_
    obtain ⟨j_23, h, hK23⟩ := bind_some h
    refine .thenJ (ι := (List Int)) (fun j_23 => []) (fun j_23 => [(5002, some (CPred.at (ptr m5002 0) (deep (fun z0 => cont 32 (⟨z0⟩ : Raw)) (rowV 3 j_23))))]) (fun s => j_23 = s) (.cons (t := 8) rfl (.cons (t := 10) rfl (.cons (t := 15) rfl (.cons (t := 16) rfl (.cons (t := 17) rfl Sub.nil))))) SubB.nil ?_ (fun j_23' hj23 => ?_)
    · skip
      refine .block ?_
      refine .close (k := 5002) (g := 5003) (fun z => cont 32 (⟨z⟩ : Raw)) rfl rfl rfl ?_
      refine .loopL h (fun s24_ => [(18, ⟨True, rep s24_.1⟩)]) (fun s24_ => [(5002, some (CPred.at (ptr m5002 0) (deep (fun z0 => cont 32 (⟨z0⟩ : Raw)) (rowV 3 s24_.2))))]) (.cons (t := 18) rfl Sub.nil) (.cons (t := 5002) rfl SubB.nil) (.cons (t := 8) rfl (.cons (t := 10) rfl (.cons (t := 15) rfl (.cons (t := 16) rfl (.cons (t := 17) rfl Sub.nil))))) SubB.nil (fun s24_ o_24 h hD24 => ?_)
      unfold ref_BestOf_L3 at h
      refine .open (k := 5002) (g := 5004) rfl rfl (fun s5004 => ?_)
      refine .seq ?_
      refine .seq ?_
      refine .region [] mixed (by kernel_rfl) ?_
      refine .cons (.move .none (.s rfl)) rfl ?_
      refine .cons (.ge .none (.s rfl) (.int (by decide))) rfl ?_
      refine .nil ?_
      refine .then ?_
      refine .cond (t := 67) rfl trivial (fun hb25 => ?_) (fun hb25 => ?_)
      · replace h := bif_t h hb25
        refine .skip ?_
        refine .then ?_
        refine .seq ?_
        obtain ⟨j_26, h, hK26⟩ := bind_some h
        refine .thenJ (ι := (List Int)) (fun j_26 => []) (fun j_26 => [(5002, some (CPred.at (ptr m5002 0) (deep (fun z0 => cont 32 (⟨z0⟩ : Raw)) (rowV 3 j_26))))]) (fun s => j_26 = s) (.cons (t := 8) rfl (.cons (t := 10) rfl (.cons (t := 15) rfl (.cons (t := 16) rfl (.cons (t := 17) rfl (.cons (t := 18) rfl Sub.nil)))))) SubB.nil ?_ (fun j_26' hj26 => ?_)
        · skip
          refine .block ?_
          refine .seq ?_
          refine .region [] mixed (by kernel_rfl) ?_
          refine .cons (.assign .none (.int (by decide))) rfl ?_
          refine .nil ?_
          refine .then ?_
          refine .seq ?_
          refine .seq ?_
          refine .region [] mixed (by kernel_rfl) ?_
          refine .cons (.load .none ty32 (.s rfl)) rfl ?_
          refine .cons (.len .none sl32 (.s rfl)) rfl ?_
          refine .cons (.move .none (.int (by decide))) rfl ?_
          refine .nil ?_
          refine .then ?_
          obtain ⟨j_27, h, hK27⟩ := bind_some h
          refine .thenJ (ι := (Int × (List Int))) (fun j_27 => [(19, ⟨True, rep j_27.1⟩)]) (fun j_27 => [(5002, some (CPred.at (ptr m5002 0) (deep (fun z0 => cont 32 (⟨z0⟩ : Raw)) (rowV 3 j_27.2))))]) (fun s => j_27 = s) (.cons (t := 8) rfl (.cons (t := 10) rfl (.cons (t := 15) rfl (.cons (t := 16) rfl (.cons (t := 17) rfl (.cons (t := 18) rfl Sub.nil)))))) SubB.nil ?_ (fun j_27' hj27 => ?_)
          · skip
            refine .block ?_
            refine .close (k := 5002) (g := 5004) (fun z => cont 32 (⟨z⟩ : Raw)) rfl rfl rfl ?_
            refine .rforL h (fun p28_ => [(72, ⟨True, rep p28_.1⟩), (19, ⟨True, rep p28_.2.1⟩)]) (fun p28_ => [(5002, some (CPred.at (ptr m5002 0) (deep (fun z0 => cont 32 (⟨z0⟩ : Raw)) (rowV 3 p28_.2.2))))]) (.cons (t := 72) rfl (.cons (t := 19) rfl Sub.nil)) (.cons (t := 5002) rfl SubB.nil) (.cons (t := 8) rfl (.cons (t := 10) rfl (.cons (t := 15) rfl (.cons (t := 16) rfl (.cons (t := 17) rfl (.cons (t := 18) rfl (.cons (t := 71) rfl Sub.nil))))))) SubB.nil (fun p28_ o_28 h hD28 => ?_)
            refine .open (k := 5002) (g := 5005) rfl rfl (fun s5005 => ?_)
            refine .seq ?_
            refine .region [] mixed (by kernel_rfl) ?_
            refine .cons (.lt .none (.s rfl) (.s rfl)) rfl ?_
            refine .nil ?_
            refine .then ?_
            refine .seq ?_
            refine .cond (t := 73) rfl trivial (fun hb29 => ?_) (fun hb29 => ?_)
            · replace h := bif_t h hb29
              refine .skip ?_
              refine .then ?_
              refine .seq ?_
              obtain ⟨j_30, h, hK30⟩ := bind_some h
              unfold ref_BestOf_L4 at h
              refine .thenJ (ι := (Int × (List Int))) (fun j_30 => [(19, ⟨True, rep j_30.1⟩)]) (fun j_30 => [(5002, some (CPred.at (ptr m5002 0) (deep (fun z0 => cont 32 (⟨z0⟩ : Raw)) (rowV 3 j_30.2))))]) (fun s => j_30 = s) (.cons (t := 8) rfl (.cons (t := 10) rfl (.cons (t := 15) rfl (.cons (t := 16) rfl (.cons (t := 17) rfl (.cons (t := 18) rfl (.cons (t := 71) rfl (.cons (t := 72) rfl Sub.nil)))))))) SubB.nil ?_ (fun j_30' hj30 => ?_)
              · skip
                refine .block ?_
                refine .seq ?_
                refine .region [] mixed (by kernel_rfl) ?_
                refine .cons (.move .none (.s rfl)) rfl ?_
                refine .cons (.assign .none (.s rfl)) rfl ?_
                refine .nil ?_
                refine .then ?_
                refine .seq ?_
                refine .region [] mixed (by kernel_rfl) ?_
                refine .cons (.move .none (.s rfl)) rfl ?_
                refine .cons (.move .none (.s rfl)) rfl ?_
                obtain ⟨hn31, h⟩ := need_some h
                refine .cons (.ishr (α := Int) (m := s24_.1) (b := p28_.1) .none (.s rfl) (.s rfl) (fun _ => hn31)) rfl ?_
                refine .cons (.iand .none (.s rfl) (.int (by decide))) rfl ?_
                refine .cons (.eqI .none (.s rfl) (.int (by decide))) rfl ?_
                refine .nil ?_
                refine .then ?_
                refine .cond (t := 79) rfl trivial (fun hb32 => ?_) (fun hb32 => ?_)
                · replace h := bif_t h hb32
                  refine .seq ?_
                  refine .region [([], []), ([], []), ([], []), ([5002, 5005], [5002, 5005]), ([], [])] mixed (by kernel_rfl) ?_
                  refine .consA (.move .none (.s rfl)) rfl ?_
                  refine .consA (.move .none (.s rfl)) rfl ?_
                  refine .consA (.move .none (.s rfl)) rfl ?_
                  obtain ⟨c2, hv33, h⟩ := bind_some h
                  refine .consW (.callClo [5002, 5005] (Ss := [rep s24_.1, rep p28_.1]) (Cs := [ref r2, ref j_4, isV (ptr m5002 0)]) (.s rfl) (ref_BestOf_2_ok hv33) (.cons (.s rfl) (.cons (.s rfl) .nil)) (.cons (k := 5002) rfl (.cons (k := 5005) rfl .nil)) rfl (by decide) (by decide) (by intro d h; cases h; decide)) rfl rfl ?_
                  refine .consA (.assign .none (.s rfl)) rfl ?_
                  refine .nil ?_
                  refine .then ?_
                  refine .open (k := 5002) (g := 5006) rfl rfl (fun s5006 => ?_)
                  refine .seq ?_
                  refine .region [] mixed (by kernel_rfl) ?_
                  refine .cons (.move .none (.s rfl)) rfl ?_
                  refine .cons (.lt .none (.s rfl) (.int (by decide))) rfl ?_
                  refine .cons (.move .none (.s rfl)) rfl ?_
                  refine .cons (.move (.at rfl rfl) (.s rfl)) rfl ?_
                  refine .cons (.move (.at rfl rfl) (.s rfl)) rfl ?_
                  refine .cons (.lt (.at rfl rfl) (.tmp rfl id) (.tmp rfl id)) rfl ?_
                  refine .cons (.pickOr .none (.s rfl) (.tmp rfl id)) rfl ?_
                  refine .nil ?_
                  refine .then ?_
                  refine .cond (t := 90) rfl trivial (fun hb34 => ?_) (fun hb34 => ?_)
                  · replace h := bif_t h hb34
                    refine .region [] mixed (by kernel_rfl) ?_
                    refine .cons (.move .none (.s rfl)) rfl ?_
                    refine .cons (.assign .none (.s rfl)) rfl ?_
                    refine .nil ?_
                    refine .blkNormal ?_
                    refine .close (k := 5002) (g := 5006) (fun z => cont 32 (⟨z⟩ : Raw)) rfl rfl rfl ?_
                    exact Ends.join _ (some_eq h) (.cons (t := 19) rfl (.cons (t := 8) rfl (.cons (t := 10) rfl (.cons (t := 15) rfl (.cons (t := 16) rfl (.cons (t := 17) rfl (.cons (t := 18) rfl (.cons (t := 71) rfl (.cons (t := 72) rfl Sub.nil))))))))) (.cons (t := 5002) rfl SubB.nil)
                  · replace h := bif_f h hb34
                    refine .skip ?_
                    refine .blkNormal ?_
                    refine .close (k := 5002) (g := 5006) (fun z => cont 32 (⟨z⟩ : Raw)) rfl rfl rfl ?_
                    exact Ends.join _ (some_eq h) (.cons (t := 19) rfl (.cons (t := 8) rfl (.cons (t := 10) rfl (.cons (t := 15) rfl (.cons (t := 16) rfl (.cons (t := 17) rfl (.cons (t := 18) rfl (.cons (t := 71) rfl (.cons (t := 72) rfl Sub.nil))))))))) (.cons (t := 5002) rfl SubB.nil)
                · replace h := bif_f h hb32
                  refine .skip ?_
                  refine .blkNormal ?_
                  refine .close (k := 5002) (g := 5005) (fun z => cont 32 (⟨z⟩ : Raw)) rfl rfl rfl ?_
                  exact Ends.join _ (some_eq h) (.cons (t := 19) rfl (.cons (t := 8) rfl (.cons (t := 10) rfl (.cons (t := 15) rfl (.cons (t := 16) rfl (.cons (t := 17) rfl (.cons (t := 18) rfl (.cons (t := 71) rfl (.cons (t := 72) rfl Sub.nil))))))))) (.cons (t := 5002) rfl SubB.nil)
              · subst hj30; have h := hK30; clear hK30
                refine .open (k := 5002) (g := 5007) rfl rfl (fun s5007 => ?_)
                refine .region [] mixed (by kernel_rfl) ?_
                refine .cons (.addW .none (.s rfl) (.int (by decide))) rfl ?_
                refine .cons (.move .none (.s rfl)) rfl ?_
                refine .nil ?_
                refine .close (k := 5002) (g := 5007) (fun z => cont 32 (⟨z⟩ : Raw)) rfl rfl rfl ?_
                exact Ends.againL (some_eq h) (.cons (t := 72) rfl (.cons (t := 19) rfl (.cons (t := 8) rfl (.cons (t := 10) rfl (.cons (t := 15) rfl (.cons (t := 16) rfl (.cons (t := 17) rfl (.cons (t := 18) rfl (.cons (t := 71) rfl Sub.nil))))))))) (.cons (t := 5002) rfl SubB.nil)
            · replace h := bif_f h hb29
              refine .exit ?_
              refine .thenExit ?_
              refine .thenExit ?_
              refine .blkExit ?_
              refine .close (k := 5002) (g := 5005) (fun z => cont 32 (⟨z⟩ : Raw)) rfl rfl rfl ?_
              replace h := hD28 _ (some_eq h)
              exact Ends.join _ (some_eq h) (.cons (t := 19) rfl (.cons (t := 8) rfl (.cons (t := 10) rfl (.cons (t := 15) rfl (.cons (t := 16) rfl (.cons (t := 17) rfl (.cons (t := 18) rfl Sub.nil))))))) (.cons (t := 5002) rfl SubB.nil)
          · subst hj27; have h := hK27; clear hK27
            refine .open (k := 5002) (g := 5008) rfl rfl (fun s5008 => ?_)
            refine .region [([5002], []), ([], []), ([], []), ([5008], []), ([5008], [5008])] mixed (by kernel_rfl) ?_
            refine .consA (.loadAt0 (k := 5002) .none tr32 rfl (.s rfl)) rfl ?_
            refine .consA (.move .none (.s rfl)) rfl ?_
            refine .consA (.move .none (.s rfl)) rfl ?_
            obtain ⟨hn35, h⟩ := need_some h
            refine .consA (.indexAddrO (k := 5008) .none sl32 ty3 (.s rfl) rfl (.s rfl) (fun _ => hn35)) rfl ?_
            refine .consN (.storeElem0 (k := 5008) ty3 (.s rfl) rfl (.s rfl) hn35) rfl ?_
            refine .nil ?_
            refine .blkNormal ?_
            refine .close (k := 5002) (g := 5008) (fun z => cont 32 (⟨z⟩ : Raw)) rfl rfl rfl ?_
            exact Ends.join _ (some_eq h) (.cons (t := 8) rfl (.cons (t := 10) rfl (.cons (t := 15) rfl (.cons (t := 16) rfl (.cons (t := 17) rfl (.cons (t := 18) rfl Sub.nil)))))) (.cons (t := 5002) rfl SubB.nil)
        · subst hj26; have h := hK26; clear hK26
          refine .open (k := 5002) (g := 5009) rfl rfl (fun s5009 => ?_)
          refine .region [] mixed (by kernel_rfl) ?_
          refine .cons (.move .none (.s rfl)) rfl ?_
          refine .cons (.subW .none (.s rfl) (.int (by decide))) rfl ?_
          obtain ⟨m2, hv36, h⟩ := bnd_some h
          refine .cons (.re hv36 (.assign .none (.s rfl))) rfl ?_
          refine .nil ?_
          refine .close (k := 5002) (g := 5009) (fun z => cont 32 (⟨z⟩ : Raw)) rfl rfl rfl ?_
          exact Ends.againL (some_eq h) (.cons (t := 18) rfl (.cons (t := 8) rfl (.cons (t := 10) rfl (.cons (t := 15) rfl (.cons (t := 16) rfl (.cons (t := 17) rfl Sub.nil)))))) (.cons (t := 5002) rfl SubB.nil)
      · replace h := bif_f h hb25
        refine .exit ?_
        refine .thenExit ?_
        refine .thenExit ?_
        refine .blkExit ?_
        refine .close (k := 5002) (g := 5004) (fun z => cont 32 (⟨z⟩ : Raw)) rfl rfl rfl ?_
        replace h := hD24 _ (some_eq h)
        exact Ends.join _ (some_eq h) (.cons (t := 8) rfl (.cons (t := 10) rfl (.cons (t := 15) rfl (.cons (t := 16) rfl (.cons (t := 17) rfl Sub.nil))))) (.cons (t := 5002) rfl SubB.nil)
    · subst hj23; have h := hK23; clear hK23
      refine .open (k := 5002) (g := 5010) rfl rfl (fun s5010 => ?_)
      refine .seq ?_
      refine .region [([], [22])] mixed (by kernel_rfl) ?_
      refine .consW (.nilRow (T := 3) (α := Int) rfl) rfl rfl ?_
      refine .nil ?_
      refine .then ?_
      refine .nameRow (t := 22) (g := 5011) rfl rfl rfl (fun s5011 => ?_)
      refine .seq ?_
      refine .seq ?_
      refine .region [] mixed (by kernel_rfl) ?_
      refine .cons (.assign .none (.int (by decide))) rfl ?_
      refine .nil ?_
      refine .then ?_
      obtain ⟨j_37, h, hK37⟩ := bind_some h
      refine .thenJ (ι := (List Int)) (fun j_37 => []) (fun j_37 => [(22, some (rowV 3 j_37))]) (fun s => j_37 = s) (.cons (t := 16) rfl Sub.nil) (.cons (t := 5002) rfl (.cons (t := 5010) rfl SubB.nil)) ?_ (fun j_37' hj37 => ?_)
      · skip
        refine .block ?_
        refine .anon (t := 22) (g := 5011) rfl rfl trivial rfl ?_
        refine .loopL h (fun s38_ => [(23, ⟨True, rep s38_.2⟩)]) (fun s38_ => [(22, some (rowV 3 s38_.1))]) (.cons (t := 23) rfl Sub.nil) (.cons (t := 22) rfl SubB.nil) (.cons (t := 8) rfl (.cons (t := 10) rfl (.cons (t := 15) rfl (.cons (t := 16) rfl (.cons (t := 17) rfl Sub.nil))))) (.cons (t := 5002) rfl (.cons (t := 5010) rfl SubB.nil)) (fun s38_ o_38 h hD38 => ?_)
        unfold ref_BestOf_L5 at h
        refine .nameRow (t := 22) (g := 5012) rfl rfl rfl (fun s5012 => ?_)
        refine .seq ?_
        refine .seq ?_
        refine .region [] mixed (by kernel_rfl) ?_
        refine .cons (.move .none (.s rfl)) rfl ?_
        refine .cons (.move .none (.s rfl)) rfl ?_
        refine .cons (.neI .none (.s rfl) (.s rfl)) rfl ?_
        refine .nil ?_
        refine .then ?_
        refine .cond (t := 99) rfl trivial (fun hb39 => ?_) (fun hb39 => ?_)
        · replace h := bif_t h hb39
          refine .skip ?_
          refine .then ?_
          refine .block ?_
          refine .seq ?_
          refine .region [] mixed (by kernel_rfl) ?_
          refine .cons (.load .none ty32 (.s rfl)) rfl ?_
          refine .cons (.len .none sl32 (.s rfl)) rfl ?_
          refine .cons (.move .none (.int (by decide))) rfl ?_
          refine .nil ?_
          refine .then ?_
          obtain ⟨j_40, h, hK40⟩ := bind_some h
          refine .tailJ (ι := ((List Int) × Int)) (fun j_40 => [(23, ⟨True, rep j_40.2⟩)]) (fun j_40 => [(22, some (rowV 3 j_40.1))]) (fun s => j_40 = s) (.cons (t := 8) rfl (.cons (t := 10) rfl (.cons (t := 15) rfl (.cons (t := 16) rfl (.cons (t := 17) rfl Sub.nil))))) (.cons (t := 5002) rfl (.cons (t := 5010) rfl SubB.nil)) ?_ (fun j_40' hj40 => ?_)
          · skip
            refine .block ?_
            refine .anon (t := 22) (g := 5012) rfl rfl trivial rfl ?_
            refine .rforEL h (fun p41_ => [(102, ⟨True, rep p41_.1⟩), (23, ⟨True, rep p41_.2.2⟩)]) (fun p41_ => [(22, some (rowV 3 p41_.2.1))]) (.cons (t := 102) rfl (.cons (t := 23) rfl Sub.nil)) (.cons (t := 22) rfl SubB.nil) (.cons (t := 8) rfl (.cons (t := 10) rfl (.cons (t := 15) rfl (.cons (t := 16) rfl (.cons (t := 17) rfl (.cons (t := 101) rfl Sub.nil)))))) (.cons (t := 5002) rfl (.cons (t := 5010) rfl SubB.nil)) (fun p41_ o_41 h hD41 => ?_)
            refine .nameRow (t := 22) (g := 5013) rfl rfl rfl (fun s5013 => ?_)
            refine .seq ?_
            refine .region [] mixed (by kernel_rfl) ?_
            refine .cons (.lt .none (.s rfl) (.s rfl)) rfl ?_
            refine .nil ?_
            refine .then ?_
            refine .seq ?_
            refine .cond (t := 103) rfl trivial (fun hb42 => ?_) (fun hb42 => ?_)
            · replace h := bif_t h hb42
              refine .skip ?_
              refine .then ?_
              refine .seq ?_
              obtain ⟨o_43, h, hK43⟩ := bindD_some h
              unfold ref_BestOf_L6 at h
              refine .thenJ (ι := ((List Int) × Int)) (fun j_43 => [(23, ⟨True, rep j_43.2⟩)]) (fun j_43 => [(22, some (rowV 3 j_43.1))]) (fun s => o_43 = Res.nx s) (.cons (t := 8) rfl (.cons (t := 10) rfl (.cons (t := 15) rfl (.cons (t := 16) rfl (.cons (t := 17) rfl (.cons (t := 101) rfl (.cons (t := 102) rfl Sub.nil))))))) (.cons (t := 5002) rfl (.cons (t := 5010) rfl SubB.nil)) ?_ (fun j_43 hj43 => ?_)
              · skip
                refine .block ?_
                refine .seq ?_
                refine .region [] mixed (by kernel_rfl) ?_
                refine .cons (.move .none (.s rfl)) rfl ?_
                refine .cons (.assign .none (.s rfl)) rfl ?_
                refine .nil ?_
                refine .then ?_
                refine .seq ?_
                refine .region [([], []), ([], []), ([], []), ([], []), ([], []), ([], []), ([], []), ([], []), ([], []), ([5002, 5010], []), ([5002], []), ([], []), ([5010], []), ([5010], []), ([], []), ([], [])] mixed (by kernel_rfl) ?_
                refine .consA (.move .none (.s rfl)) rfl ?_
                refine .consA (.move .none (.s rfl)) rfl ?_
                obtain ⟨hn44, h⟩ := need_some h
                refine .consA (.ishr (α := Int) (m := p41_.2.2) (b := p41_.1) .none (.s rfl) (.s rfl) (fun _ => hn44)) rfl ?_
                refine .consA (.iand .none (.s rfl) (.int (by decide))) rfl ?_
                refine .consA (.eqI .none (.s rfl) (.int (by decide))) rfl ?_
                refine .consA (.move .none (.s rfl)) rfl ?_
                refine .consA (.move (.at rfl rfl) (.s rfl)) rfl ?_
                refine .consA (.move (.at rfl rfl) (.s rfl)) rfl ?_
                refine .consA (.move (.at rfl rfl) (.s rfl)) rfl ?_
                obtain ⟨r4, hv45, h⟩ := bind_some h
                refine .consA (.callCL (.at rfl rfl) (.tmp rfl id) fnok88 (.same (.same (.deep1 (k := 5002) (q := 5010) (x := (⟨s5010⟩ : Raw)) (y := j_23) rfl rfl rfl (fun M cs w hc hl => row_cells hc hl) .nil))) (fun hg => ref_BestOf_2r_ok ((fun hg => gd_some hv45 (hg.2)) hg)) .rep (.cons (.tmp rfl id) (.cons (.tmp rfl id) .nil))) rfl ?_
                refine .consA (.loadAt0 (k := 5002) (.at rfl rfl) tr32 rfl (.s rfl)) rfl ?_
                refine .consA (.move (.at rfl rfl) (.s rfl)) rfl ?_
                obtain ⟨hn46, h⟩ := need_some h
                refine .consA (.indexAddrO (k := 5010) (.at rfl rfl) sl32 ty3 (.tmp rfl id) rfl (.tmp rfl id) (fun hg => hn46 hg.2)) rfl ?_
                refine .consA (.loadElem0 (k := 5010) (.at rfl rfl) ty3 (.tmp rfl id) rfl (fun hg => hn46 hg.2)) rfl ?_
                refine .consA (.eqI (.at rfl rfl) (.tmp rfl id) (.tmp rfl id)) rfl ?_
                refine .consA (.pickAnd .none (.s rfl) (.tmp rfl id)) rfl ?_
                refine .nil ?_
                refine .then ?_
                refine .cond (t := 120) rfl trivial (fun hb47 => ?_) (fun hb47 => ?_)
                · replace h := bif_t h hb47
                  refine .seq ?_
                  refine .region [([], []), ([], []), ([], []), ([], []), ([], []), ([], []), ([5013], [127, 5013]), ([127], [22, 127])] mixed (by kernel_rfl) ?_
                  refine .consA (.move .none (.s rfl)) rfl ?_
                  refine .consA (.load .none ty32 (.s rfl)) rfl ?_
                  refine .consA (.move .none (.s rfl)) rfl ?_
                  obtain ⟨hn48, h⟩ := need_some h
                  refine .consA (.indexAddr .none sl32 ty3 (.s rfl) (.s rfl) (fun _ => hn48)) rfl ?_
                  refine .consA (.load .none ty3 (.s rfl)) rfl ?_
                  refine .consA (.buildSlice (xs := [_]) .none sl32 ty3 hz3 (.cons (.s rfl) .nil) rfl (by decide)) rfl ?_
                  obtain ⟨hn49, h⟩ := need_some h
                  refine .consW (.append (k := 5013) rk32 rfl (.told (.s rfl) rfl) (.s rfl) hn49) rfl rfl ?_
                  refine .consWD (.passRow rfl (.tmp rfl)) rfl rfl ?_
                  refine .nil ?_
                  refine .then ?_
                  obtain ⟨out1, hv50, h⟩ := bnd_some h
                  refine .reB (t := 22) rfl (congrArg (rowV 3) hv50) ?_
                  refine .nameRow (t := 22) (g := 5014) rfl rfl rfl (fun s5014 => ?_)
                  refine .seq ?_
                  refine .region [] mixed (by kernel_rfl) ?_
                  refine .cons (.move .none (.s rfl)) rfl ?_
                  refine .cons (.move .none (.s rfl)) rfl ?_
                  obtain ⟨hn51, h⟩ := need_some h
                  refine .cons (.ishl (α := Int) (m := 1) (b := p41_.1) .none (.int (by decide)) (.s rfl) (fun _ => hn51)) rfl ?_
                  refine .cons (.ior .none (.s rfl) (.s rfl)) rfl ?_
                  obtain ⟨m3, hv52, h⟩ := bnd_some h
                  refine .cons (.re hv52 (.assign .none (.s rfl))) rfl ?_
                  refine .nil ?_
                  refine .then ?_
                  refine .exit ?_
                  refine .blkExitNe (by decide) ?_
                  refine .thenExit ?_
                  refine .thenExit ?_
                  refine .blkExit ?_
                  refine .anon (t := 22) (g := 5014) rfl rfl trivial rfl ?_
                  replace h := resd_ab hK43 (some_eq h)
                  replace h := hD41 _ (some_eq h)
                  exact Ends.join _ (some_eq h) (.cons (t := 23) rfl (.cons (t := 8) rfl (.cons (t := 10) rfl (.cons (t := 15) rfl (.cons (t := 16) rfl (.cons (t := 17) rfl Sub.nil)))))) (.cons (t := 22) rfl (.cons (t := 5002) rfl (.cons (t := 5010) rfl SubB.nil)))
                · replace h := bif_f h hb47
                  refine .skip ?_
                  refine .blkNormal ?_
                  refine .anon (t := 22) (g := 5013) rfl rfl trivial rfl ?_
                  exact Ends.join _ (some_eq h) (.cons (t := 23) rfl (.cons (t := 8) rfl (.cons (t := 10) rfl (.cons (t := 15) rfl (.cons (t := 16) rfl (.cons (t := 17) rfl (.cons (t := 101) rfl (.cons (t := 102) rfl Sub.nil)))))))) (.cons (t := 22) rfl (.cons (t := 5002) rfl (.cons (t := 5010) rfl SubB.nil)))
              · have h := resd_nx hK43 hj43
                refine .nameRow (t := 22) (g := 5015) rfl rfl rfl (fun s5015 => ?_)
                refine .region [] mixed (by kernel_rfl) ?_
                refine .cons (.addW .none (.s rfl) (.int (by decide))) rfl ?_
                refine .cons (.move .none (.s rfl)) rfl ?_
                refine .nil ?_
                refine .anon (t := 22) (g := 5015) rfl rfl trivial rfl ?_
                exact Ends.againL (some_eq h) (.cons (t := 102) rfl (.cons (t := 23) rfl (.cons (t := 8) rfl (.cons (t := 10) rfl (.cons (t := 15) rfl (.cons (t := 16) rfl (.cons (t := 17) rfl (.cons (t := 101) rfl Sub.nil)))))))) (.cons (t := 22) rfl (.cons (t := 5002) rfl (.cons (t := 5010) rfl SubB.nil)))
            · replace h := bif_f h hb42
              refine .exit ?_
              refine .thenExit ?_
              refine .thenExit ?_
              refine .blkExit ?_
              refine .anon (t := 22) (g := 5013) rfl rfl trivial rfl ?_
              replace h := hD41 _ (some_eq h)
              exact Ends.join _ (some_eq h) (.cons (t := 23) rfl (.cons (t := 8) rfl (.cons (t := 10) rfl (.cons (t := 15) rfl (.cons (t := 16) rfl (.cons (t := 17) rfl Sub.nil)))))) (.cons (t := 22) rfl (.cons (t := 5002) rfl (.cons (t := 5010) rfl SubB.nil)))
          · subst hj40; have h := hK40; clear hK40
            refine .blkNormal ?_
            exact Ends.againL (some_eq h) (.cons (t := 23) rfl (.cons (t := 8) rfl (.cons (t := 10) rfl (.cons (t := 15) rfl (.cons (t := 16) rfl (.cons (t := 17) rfl Sub.nil)))))) (.cons (t := 22) rfl (.cons (t := 5002) rfl (.cons (t := 5010) rfl SubB.nil)))
        · replace h := bif_f h hb39
          refine .exit ?_
          refine .thenExit ?_
          refine .thenExit ?_
          refine .blkExit ?_
          refine .anon (t := 22) (g := 5012) rfl rfl trivial rfl ?_
          replace h := hD38 _ (some_eq h)
          exact Ends.join _ (some_eq h) (.cons (t := 16) rfl Sub.nil) (.cons (t := 22) rfl (.cons (t := 5002) rfl (.cons (t := 5010) rfl SubB.nil)))
      · subst hj37; have h := hK37; clear hK37
        refine .freezeRowA (t := 22) rfl rfl (.cons (t := 5002) rfl (.cons (t := 5010) rfl SubB.nil)) rfl ?_
        refine .seq ?_
        refine .region [([], []), ([5002], []), ([5010], []), ([5010], []), ([], []), ([], [])] mixed (by kernel_rfl) ?_
        refine .consA (.move .none (.s rfl)) rfl ?_
        refine .consA (.loadAt0 (k := 5002) .none tr32 rfl (.s rfl)) rfl ?_
        obtain ⟨hn53, h⟩ := need_some h
        refine .consA (.indexAddrO (k := 5010) .none sl32 ty3 (.s rfl) rfl (.int (by decide)) (fun _ => hn53)) rfl ?_
        refine .consA (.loadElem0 (k := 5010) .none ty3 (.s rfl) rfl (fun _ => hn53)) rfl ?_
        refine .consA (.assign .none (.s rfl)) rfl ?_
        refine .consA (.assign .none (.s rfl)) rfl ?_
        refine .nil ?_
        refine .then ?_
        refine .ret ?_
        obtain rfl := some_eq h
        exact Ends.ret2 (.inl rfl) Try.results46 (ResOK.tmp rfl trivial Imp.refl) (ResOK.tmp rfl trivial Imp.refl)

theorem slices_Equal_int_ok {s1_1 : (List Int)} {s2_1 : (List Int)} {r : Bool}  (h : slices_Equal_int s1_1 s2_1 = some r) : FSpec Try.prog 16 [rep s1_1, rep s2_1] (rep r) := by
  unfold slices_Equal_int at h
  refine FSpec.intro (n := 26) fnok16 Try.func16 rfl Try.ntmps16 rfl (fun F => ?_)
  refine .seq ?_
  refine .region [] mixed (by kernel_rfl) ?_
  refine .cons (.assign .none .bool) rfl ?_
  refine .nil ?_
  refine .then ?_
  refine .seq ?_
  refine .seq ?_
  refine .region [] mixed (by kernel_rfl) ?_
  refine .cons (.move .none (.s rfl)) rfl ?_
  refine .cons (.len .none sl32 (.s rfl)) rfl ?_
  refine .cons (.move .none (.s rfl)) rfl ?_
  refine .cons (.len .none sl32 (.s rfl)) rfl ?_
  refine .cons (.neI .none (.s rfl) (.s rfl)) rfl ?_
  refine .nil ?_
  refine .then ?_
  refine .cond (t := 10) rfl trivial (fun hb1 => ?_) (fun hb1 => ?_)
  · replace h := bif_t h hb1
    refine .seq ?_
    refine .region [] mixed (by kernel_rfl) ?_
    refine .cons (.assign .none .bool) rfl ?_
    refine .nil ?_
    refine .then ?_
    refine .ret ?_
    refine .thenRet ?_
    obtain rfl := some_eq h
    exact Ends.ret1 (.inl rfl) Try.results16 (ResOK.tmp rfl trivial Imp.refl)
  · replace h := bif_f h hb1
    refine .skip ?_
    refine .then ?_
    refine .seq ?_
    refine .seq ?_
    refine .region [] mixed (by kernel_rfl) ?_
    refine .cons (.move .none (.s rfl)) rfl ?_
    refine .cons (.len .none sl32 (.s rfl)) rfl ?_
    refine .cons (.move .none (.int (by decide))) rfl ?_
    refine .nil ?_
    refine .then ?_
    obtain ⟨o_2, h, hK2⟩ := bindR_some h
    refine .thenJ (ι := Unit) (fun j_2 => []) (fun j_2 => []) (fun s => o_2 = Res.nx s) Sub.nil SubB.nil ?_ (fun j_2 hj2 => ?_)
    · skip
      refine .block ?_
      refine .rforEL h (fun p3_ => [(13, ⟨True, rep p3_.1⟩)]) (fun p3_ => []) (.cons (t := 13) rfl Sub.nil) SubB.nil (.cons (t := 0) rfl (.cons (t := 1) rfl (.cons (t := 12) rfl Sub.nil))) SubB.nil (fun p3_ o_3 h hD3 => ?_)
      refine .seq ?_
      refine .region [] mixed (by kernel_rfl) ?_
      refine .cons (.lt .none (.s rfl) (.s rfl)) rfl ?_
      refine .nil ?_
      refine .then ?_
      refine .seq ?_
      refine .cond (t := 14) rfl trivial (fun hb4 => ?_) (fun hb4 => ?_)
      · replace h := bif_t h hb4
        refine .skip ?_
        refine .then ?_
        refine .seq ?_
        obtain ⟨o_5, h, hK5⟩ := bindD_some h
        unfold slices_Equal_int_L1 at h
        refine .thenJ (ι := Unit) (fun j_5 => []) (fun j_5 => []) (fun s => o_5 = Res.nx s) (.cons (t := 0) rfl (.cons (t := 1) rfl (.cons (t := 12) rfl (.cons (t := 13) rfl Sub.nil)))) SubB.nil ?_ (fun j_5 hj5 => ?_)
        · skip
          refine .block ?_
          refine .seq ?_
          refine .region [] mixed (by kernel_rfl) ?_
          refine .cons (.move .none (.s rfl)) rfl ?_
          refine .cons (.assign .none (.s rfl)) rfl ?_
          refine .nil ?_
          refine .then ?_
          refine .seq ?_
          refine .region [] mixed (by kernel_rfl) ?_
          refine .cons (.move .none (.s rfl)) rfl ?_
          refine .cons (.move .none (.s rfl)) rfl ?_
          obtain ⟨hn6, h⟩ := need_some h
          refine .cons (.indexAddr .none sl32 ty3 (.s rfl) (.s rfl) (fun _ => hn6)) rfl ?_
          refine .cons (.load .none ty3 (.s rfl)) rfl ?_
          refine .cons (.move .none (.s rfl)) rfl ?_
          refine .cons (.move .none (.s rfl)) rfl ?_
          obtain ⟨hn7, h⟩ := need_some h
          refine .cons (.indexAddr .none sl32 ty3 (.s rfl) (.s rfl) (fun _ => hn7)) rfl ?_
          refine .cons (.load .none ty3 (.s rfl)) rfl ?_
          refine .cons (.neI .none (.s rfl) (.s rfl)) rfl ?_
          refine .nil ?_
          refine .then ?_
          refine .cond (t := 24) rfl trivial (fun hb8 => ?_) (fun hb8 => ?_)
          · replace h := bif_t h hb8
            refine .seq ?_
            refine .region [] mixed (by kernel_rfl) ?_
            refine .cons (.assign .none .bool) rfl ?_
            refine .nil ?_
            refine .then ?_
            refine .ret ?_
            refine .blkRet ?_
            refine .thenRet ?_
            refine .thenRet ?_
            refine .blkRet ?_
            refine .thenRet ?_
            replace h := resd_ab hK5 (some_eq h)
            replace h := hD3 _ (some_eq h)
            replace h := resb_ab hK2 (some_eq h)
            obtain rfl := some_eq h
            exact Ends.ret1 (.inl rfl) Try.results16 (ResOK.tmp rfl trivial Imp.refl)
          · replace h := bif_f h hb8
            refine .skip ?_
            refine .blkNormal ?_
            exact Ends.join _ (some_eq h) (.cons (t := 0) rfl (.cons (t := 1) rfl (.cons (t := 12) rfl (.cons (t := 13) rfl Sub.nil)))) SubB.nil
        · have h := resd_nx hK5 hj5
          refine .region [] mixed (by kernel_rfl) ?_
          refine .cons (.addW .none (.s rfl) (.int (by decide))) rfl ?_
          refine .cons (.move .none (.s rfl)) rfl ?_
          refine .nil ?_
          exact Ends.againL (some_eq h) (.cons (t := 13) rfl (.cons (t := 0) rfl (.cons (t := 1) rfl (.cons (t := 12) rfl Sub.nil)))) SubB.nil
      · replace h := bif_f h hb4
        refine .exit ?_
        refine .thenExit ?_
        refine .thenExit ?_
        refine .blkExit ?_
        replace h := hD3 _ (some_eq h)
        exact Ends.join _ (some_eq h) Sub.nil SubB.nil
    · have h := resb_nx hK2 hj2
      refine .seq ?_
      refine .region [] mixed (by kernel_rfl) ?_
      refine .cons (.assign .none .bool) rfl ?_
      refine .nil ?_
      refine .then ?_
      refine .ret ?_
      obtain rfl := some_eq h
      exact Ends.ret1 (.inl rfl) Try.results16 (ResOK.tmp rfl trivial Imp.refl)

theorem slices_Clone_int_ok {s1 : (List Int)} {r : (List Int)}  (h : slices_Clone_int s1 = some r) : FSpecO Try.prog 27 [rep s1] [] (anyV) [some (rowV 3 r)] := by
  unfold slices_Clone_int at h
  refine FSpecO.intro (n := 8) fnok27 Try.func27 rfl Try.ntmps27 rfl (fun F => ?_)
  refine .seq ?_
  refine .region [] mixed (by kernel_rfl) ?_
  refine .cons (.assign .none (.const (x := ([] : (List Int))) (fun M w => ⟨_, ⟨none, 0, rfl, Nat.le_refl _, by decide, rfl⟩, rfl⟩))) rfl ?_
  refine .nil ?_
  refine .then ?_
  refine .seq ?_
  refine .seq ?_
  refine .region [] mixed (by kernel_rfl) ?_
  refine .cons (.move .none (.s rfl)) rfl ?_
  refine .cons (.eqNil .none sl32 (.s rfl)) rfl ?_
  refine .nil ?_
  refine .then ?_
  refine .condNil (t := 4) rfl trivial (fun hb1 => ?_) ?_
  · replace h := nilc_t h hb1
    refine .seq ?_
    refine .region [([], [2])] mixed (by kernel_rfl) ?_
    refine .consW (.nilRow (T := 3) (α := Int) rfl) rfl rfl ?_
    refine .nil ?_
    refine .then ?_
    refine .nameRow (t := 2) (g := 5001) rfl rfl rfl (fun s5001 => ?_)
    refine .ret ?_
    refine .thenRet ?_
    refine .anon (t := 2) (g := 5001) rfl rfl trivial rfl ?_
    obtain rfl := some_eq h
    exact Ends.ret1O (.inl rfl) [2] Try.results27 (by decide) (.res rfl rfl) (ResOK.tmp rfl trivial (fun _ _ _ _ => trivial))
  · replace h := nilc_f h
    refine .skip ?_
    refine .then ?_
    refine .seq ?_
    refine .region [([], [5]), ([], []), ([5], [7, 5]), ([7], [2, 7])] mixed (by kernel_rfl) ?_
    refine .consW (.buildSliceO (xs := []) rfl sl32 ty3 hz3 .nil rfl (by decide)) rfl rfl ?_
    refine .consA (.move .none (.s rfl)) rfl ?_
    obtain ⟨hn2, h⟩ := need_some h
    refine .consW (.append (k := 5) rk32 rfl (.tmp rfl) (.s rfl) hn2) rfl rfl ?_
    refine .consW (.passRow rfl (.tmp rfl)) rfl rfl ?_
    refine .nil ?_
    refine .then ?_
    obtain ⟨v1, hv3, h⟩ := bnd_some h
    refine .reB (t := 2) rfl (congrArg (rowV 3) hv3) ?_
    refine .nameRow (t := 2) (g := 5002) rfl rfl rfl (fun s5002 => ?_)
    refine .ret ?_
    refine .anon (t := 2) (g := 5002) rfl rfl trivial rfl ?_
    obtain rfl := some_eq h
    exact Ends.ret1O (.inl rfl) [2] Try.results27 (by decide) (.res rfl rfl) (ResOK.tmp rfl trivial (fun _ _ _ _ => trivial))

theorem law_OrdersMatch_ok {upper1 : (List Int)} {lower1 : (List Int)} {l1 : (List Link)} {seed1 : (KI .u32)} {r : Bool}  (h : law_OrdersMatch upper1 lower1 l1 seed1 = some r) : FSpec Try.prog 7 [rep upper1, rep lower1, rep l1, rep seed1] (rep r) := by
  unfold law_OrdersMatch at h
  refine FSpec.intro (n := 159) fnok7 Try.func7 rfl Try.ntmps7 rfl (fun F => ?_)
  refine .seq ?_
  refine .region [] mixed (by kernel_rfl) ?_
  refine .cons (.box .none (.s rfl)) rfl ?_
  refine .cons (.box .none (.s rfl)) rfl ?_
  refine .cons (.box .none (.s rfl)) rfl ?_
  refine .cons (.assign .none .bool) rfl ?_
  refine .nil ?_
  refine .then ?_
  refine .seq ?_
  refine .region [] mixed (by kernel_rfl) ?_
  refine .cons (.load .none ty32 (.s rfl)) rfl ?_
  refine .cons (.load .none ty32 (.s rfl)) rfl ?_
  refine .cons (.load .none ty23 (.s rfl)) rfl ?_
  obtain ⟨own1, hv1, h⟩ := bind_some h
  refine .cons (.call .none (ref_CrossError_ok hv1) (.cons (.s rfl) (.cons (.s rfl) (.cons (.s rfl) .nil)))) rfl ?_
  refine .cons (.assign .none (.s rfl)) rfl ?_
  refine .nil ?_
  refine .then ?_
  refine .seq ?_
  refine .region [] mixed (by kernel_rfl) ?_
  refine .cons (.load .none ty32 (.s rfl)) rfl ?_
  refine .cons (.load .none ty32 (.s rfl)) rfl ?_
  refine .cons (.load .none ty23 (.s rfl)) rfl ?_
  obtain ⟨r1, hv2, h⟩ := bind_some h
  refine .cons (.call .none (layer_Crossings_ok hv2) (.cons (.s rfl) (.cons (.s rfl) (.cons (.s rfl) .nil)))) rfl ?_
  refine .cons (.move .none (.s rfl)) rfl ?_
  refine .cons (.extract .none (.s rfl) rfl) rfl ?_
  refine .cons (.extract .none (.s rfl) rfl) rfl ?_
  refine .cons (.assign .none (.s rfl)) rfl ?_
  refine .cons (.assign .none (.s rfl)) rfl ?_
  refine .nil ?_
  refine .then ?_
  refine .seq ?_
  refine .seq ?_
  refine .region [] mixed (by kernel_rfl) ?_
  obtain ⟨r2, hv3, h⟩ := bind_some h
  refine .cons (.call .none (law_layers_ok hv3) .nil) rfl ?_
  refine .cons (.not .none (.s rfl)) rfl ?_
  refine .cons (.move .none (.s rfl)) rfl ?_
  refine .cons (.move (.at rfl rfl) (.s rfl)) rfl ?_
  refine .cons (.move (.at rfl rfl) (.s rfl)) rfl ?_
  refine .cons (.move (.at rfl rfl) (.s rfl)) rfl ?_
  refine .cons (.makeFunc (ι := Int) (pre := fun i => (law_OrdersMatch_1 upper1 lower1 l1)  = some i) (Ss := fun i => []) (S := fun i => rep i) (.at rfl rfl) fnok41 (fun i h => law_OrdersMatch_1_ok h) (.cons (.s rfl) (.cons (.s rfl) (.cons (.s rfl) .nil)))) rfl ?_
  obtain ⟨r3, hv4, h⟩ := bind_some h
  refine .cons (.callIf (.at rfl rfl) fnok40 (fun hg => law_is_int_ok ((fun hg => gd_some hv4 ((notT hg.2))) hg)) (.cons (.tmp rfl id) (.cons (.tmp rfl id) (.cons (.tmp rfl id) (.cons (.tmp rfl id) .nil)))) (fun h => h)) rfl ?_
  refine .cons (.not (.at rfl rfl) (.tmp rfl id)) rfl ?_
  refine .cons (.pickOr .none (.s rfl) (.tmp rfl id)) rfl ?_
  refine .nil ?_
  refine .then ?_
  refine .cond (t := 40) rfl trivial (fun hb5 => ?_) (fun hb5 => ?_)
  · replace h := bif_t h hb5
    refine .seq ?_
    refine .region [] mixed (by kernel_rfl) ?_
    refine .cons (.assign .none .bool) rfl ?_
    refine .nil ?_
    refine .then ?_
    refine .ret ?_
    refine .thenRet ?_
    obtain rfl := some_eq h
    exact Ends.ret1 (.inl rfl) Try.results7 (ResOK.tmp rfl trivial Imp.refl)
  · replace h := bif_f h hb5
    refine .skip ?_
    refine .then ?_
    refine .seq ?_
    refine .region [] mixed (by kernel_rfl) ?_
    refine .cons (.load .none ty32 (.s rfl)) rfl ?_
    refine .cons (.load .none ty32 (.s rfl)) rfl ?_
    refine .cons (.load .none ty23 (.s rfl)) rfl ?_
    obtain ⟨r4, hv6, h⟩ := bind_some h
    refine .cons (.call .none (layer_Best_ok hv6) (.cons (.s rfl) (.cons (.s rfl) (.cons (.s rfl) .nil)))) rfl ?_
    refine .cons (.move .none (.s rfl)) rfl ?_
    refine .cons (.extract .none (.s rfl) rfl) rfl ?_
    refine .cons (.extract .none (.s rfl) rfl) rfl ?_
    refine .cons (.extract .none (.s rfl) rfl) rfl ?_
    refine .cons (.assign .none (.s rfl)) rfl ?_
    refine .cons (.assign .none (.s rfl)) rfl ?_
    refine .cons (.assign .none (.s rfl)) rfl ?_
    refine .nil ?_
    refine .then ?_
    refine .seq ?_
    refine .seq ?_
    refine .region [] mixed (by kernel_rfl) ?_
    refine .cons (.move .none (.s rfl)) rfl ?_
    refine .cons (.load .none ty32 (.s rfl)) rfl ?_
    refine .cons (.len .none sl32 (.s rfl)) rfl ?_
    refine .cons (.gt .none (.s rfl) (.int (by decide))) rfl ?_
    obtain ⟨r5, hv7, h⟩ := bind_some h
    refine .cons (.call .none (ref_When_ok hv7) (.cons (.s rfl) (.cons (.int (by decide)) .nil))) rfl ?_
    refine .cons (.buildSlice (xs := [_, _]) .none sl109 ty24 hz24 (.cons (.s rfl) (.cons (.s rfl) .nil)) rfl (by decide)) rfl ?_
    obtain ⟨want1, hv8, h⟩ := bind_some h
    refine .cons (.call .none (ref_First_ok hv8) (.cons (.s rfl) .nil)) rfl ?_
    refine .cons (.assign .none (.s rfl)) rfl ?_
    refine .nil ?_
    refine .then ?_
    refine .seq ?_
    refine .region [] mixed (by kernel_rfl) ?_
    refine .cons (.move .none (.s rfl)) rfl ?_
    refine .cons (.neI .none (.s rfl) (.int (by decide))) rfl ?_
    refine .nil ?_
    refine .then ?_
    refine .cond (t := 57) rfl trivial (fun hb9 => ?_) (fun hb9 => ?_)
    · replace h := bif_t h hb9
      refine .seq ?_
      refine .region [] mixed (by kernel_rfl) ?_
      refine .cons (.move .none (.s rfl)) rfl ?_
      refine .cons (.len .none sl32 (.s rfl)) rfl ?_
      refine .cons (.eqI .none (.s rfl) (.int (by decide))) rfl ?_
      refine .cons (.move .none (.s rfl)) rfl ?_
      refine .cons (.move (.at rfl rfl) (.s rfl)) rfl ?_
      refine .cons (.eqI (.at rfl rfl) (.tmp rfl id) (.int (by decide))) rfl ?_
      refine .cons (.pickAnd .none (.s rfl) (.tmp rfl id)) rfl ?_
      refine .cons (.move .none (.s rfl)) rfl ?_
      refine .cons (.move (.at rfl rfl) (.s rfl)) rfl ?_
      refine .cons (.move (.at rfl rfl) (.s rfl)) rfl ?_
      refine .cons (.eqI (.at rfl rfl) (.tmp rfl id) (.tmp rfl id)) rfl ?_
      refine .cons (.pickAnd .none (.s rfl) (.tmp rfl id)) rfl ?_
      refine .cons (.assign .none (.s rfl)) rfl ?_
      refine .nil ?_
      refine .then ?_
      refine .ret ?_
      refine .thenRet ?_
      obtain rfl := some_eq h
      exact Ends.ret1 (.inl rfl) Try.results7 (ResOK.tmp rfl trivial Imp.refl)
    · replace h := bif_f h hb9
      refine .skip ?_
      refine .then ?_
      refine .seq ?_
      refine .seq ?_
      refine .region [] mixed (by kernel_rfl) ?_
      refine .cons (.load .none ty32 (.s rfl)) rfl ?_
      refine .cons (.len .none sl32 (.s rfl)) rfl ?_
      refine .cons (.gt .none (.s rfl) (.int (by decide))) rfl ?_
      refine .cons (.move .none (.s rfl)) rfl ?_
      refine .cons (.load (.at rfl rfl) ty23 (.s rfl)) rfl ?_
      refine .cons (.len (.at rfl rfl) sl23 (.tmp rfl id)) rfl ?_
      refine .cons (.gt (.at rfl rfl) (.tmp rfl id) (.int (by decide))) rfl ?_
      refine .cons (.pickOr .none (.s rfl) (.tmp rfl id)) rfl ?_
      refine .nil ?_
      refine .then ?_
      refine .cond (t := 77) rfl trivial (fun hb10 => ?_) (fun hb10 => ?_)
      · replace h := bif_t h hb10
        refine .seq ?_
        refine .region [] mixed (by kernel_rfl) ?_
        refine .cons (.move .none (.s rfl)) rfl ?_
        refine .cons (.eqI .none (.s rfl) (.int (by decide))) rfl ?_
        refine .cons (.move .none (.s rfl)) rfl ?_
        refine .cons (.load (.at rfl rfl) ty32 (.s rfl)) rfl ?_
        refine .cons (.move (.at rfl rfl) (.s rfl)) rfl ?_
        refine .cons (.load (.at rfl rfl) ty23 (.s rfl)) rfl ?_
        obtain ⟨r6, hv11, h⟩ := bind_some h
        refine .cons (.callIf (.at rfl rfl) fnok42 (fun hg => ref_CrossingsOf_ok ((fun hg => gd_some hv11 (hg.2)) hg)) (.cons (.tmp rfl id) (.cons (.tmp rfl id) (.cons (.tmp rfl id) .nil))) (fun h => h)) rfl ?_
        refine .cons (.move (.at rfl rfl) (.s rfl)) rfl ?_
        refine .cons (.eqI (.at rfl rfl) (.tmp rfl id) (.tmp rfl id)) rfl ?_
        refine .cons (.pickAnd .none (.s rfl) (.tmp rfl id)) rfl ?_
        refine .cons (.move .none (.s rfl)) rfl ?_
        refine .cons (.move (.at rfl rfl) (.s rfl)) rfl ?_
        refine .cons (.move (.at rfl rfl) (.s rfl)) rfl ?_
        refine .cons (.le (.at rfl rfl) (.tmp rfl id) (.tmp rfl id)) rfl ?_
        refine .cons (.pickAnd .none (.s rfl) (.tmp rfl id)) rfl ?_
        refine .cons (.assign .none (.s rfl)) rfl ?_
        refine .nil ?_
        refine .then ?_
        refine .ret ?_
        refine .thenRet ?_
        obtain rfl := some_eq h
        exact Ends.ret1 (.inl rfl) Try.results7 (ResOK.tmp rfl trivial Imp.refl)
      · replace h := bif_f h hb10
        refine .skip ?_
        refine .then ?_
        refine .seq ?_
        refine .region [] mixed (by kernel_rfl) ?_
        refine .cons (.load .none ty32 (.s rfl)) rfl ?_
        refine .cons (.load .none ty32 (.s rfl)) rfl ?_
        refine .cons (.load .none ty23 (.s rfl)) rfl ?_
        obtain ⟨r7, hv12, h⟩ := bind_some h
        refine .cons (.call .none (ref_BestOf_ok hv12) (.cons (.s rfl) (.cons (.s rfl) (.cons (.s rfl) .nil)))) rfl ?_
        refine .cons (.move .none (.s rfl)) rfl ?_
        refine .cons (.extract .none (.s rfl) rfl) rfl ?_
        refine .cons (.extract .none (.s rfl) rfl) rfl ?_
        refine .cons (.assign .none (.s rfl)) rfl ?_
        refine .cons (.assign .none (.s rfl)) rfl ?_
        refine .nil ?_
        refine .then ?_
        refine .seq ?_
        refine .seq ?_
        refine .region [] mixed (by kernel_rfl) ?_
        refine .cons (.move .none (.s rfl)) rfl ?_
        refine .cons (.neI .none (.s rfl) (.int (by decide))) rfl ?_
        refine .cons (.move .none (.s rfl)) rfl ?_
        refine .cons (.move (.at rfl rfl) (.s rfl)) rfl ?_
        refine .cons (.move (.at rfl rfl) (.s rfl)) rfl ?_
        obtain ⟨r8, hv13, h⟩ := bind_some h
        refine .cons (.callIf (.at rfl rfl) fnok16 (fun hg => slices_Equal_int_ok ((fun hg => gd_some hv13 ((notT hg.2))) hg)) (.cons (.tmp rfl id) (.cons (.tmp rfl id) .nil)) (fun h => h)) rfl ?_
        refine .cons (.not (.at rfl rfl) (.tmp rfl id)) rfl ?_
        refine .cons (.pickOr .none (.s rfl) (.tmp rfl id)) rfl ?_
        refine .cons (.move .none (.s rfl)) rfl ?_
        refine .cons (.move (.at rfl rfl) (.s rfl)) rfl ?_
        refine .cons (.move (.at rfl rfl) (.s rfl)) rfl ?_
        refine .cons (.neI (.at rfl rfl) (.tmp rfl id) (.tmp rfl id)) rfl ?_
        refine .cons (.pickOr .none (.s rfl) (.tmp rfl id)) rfl ?_
        refine .cons (.move .none (.s rfl)) rfl ?_
        refine .cons (.load (.at rfl rfl) ty32 (.s rfl)) rfl ?_
        refine .cons (.move (.at rfl rfl) (.s rfl)) rfl ?_
        refine .cons (.load (.at rfl rfl) ty23 (.s rfl)) rfl ?_
        obtain ⟨r9, hv14, h⟩ := bind_some h
        refine .cons (.callIf (.at rfl rfl) fnok42 (fun hg => ref_CrossingsOf_ok ((fun hg => gd_some hv14 ((notT hg.2))) hg)) (.cons (.tmp rfl id) (.cons (.tmp rfl id) (.cons (.tmp rfl id) .nil))) (fun h => h)) rfl ?_
        refine .cons (.move (.at rfl rfl) (.s rfl)) rfl ?_
        refine .cons (.neI (.at rfl rfl) (.tmp rfl id) (.tmp rfl id)) rfl ?_
        refine .cons (.pickOr .none (.s rfl) (.tmp rfl id)) rfl ?_
        refine .nil ?_
        refine .then ?_
        refine .cond (t := 120) rfl trivial (fun hb15 => ?_) (fun hb15 => ?_)
        · replace h := bif_t h hb15
          refine .seq ?_
          refine .region [] mixed (by kernel_rfl) ?_
          refine .cons (.assign .none .bool) rfl ?_
          refine .nil ?_
          refine .then ?_
          refine .ret ?_
          refine .thenRet ?_
          obtain rfl := some_eq h
          exact Ends.ret1 (.inl rfl) Try.results7 (ResOK.tmp rfl trivial Imp.refl)
        · replace h := bif_f h hb15
          refine .skip ?_
          refine .then ?_
          refine .seq ?_
          refine .region [([], []), ([], [122]), ([122], [17, 122])] mixed (by kernel_rfl) ?_
          refine .consA (.load .none ty32 (.s rfl)) rfl ?_
          obtain ⟨other1, hv16, h⟩ := bind_some h
          refine .consW (.callO [] (slices_Clone_int_ok hv16) (.cons (.s rfl) .nil) .nil rfl (by decide) (by decide) (by intro d h; cases h; decide)) rfl rfl ?_
          refine .consW (.passRow rfl (.tmp rfl)) rfl rfl ?_
          refine .nil ?_
          refine .then ?_
          refine .nameRow (t := 17) (g := 5001) rfl rfl rfl (fun s5001 => ?_)
          refine .seq ?_
          refine .seq ?_
          refine .region [([], []), ([5001], []), ([], []), ([], [])] mixed (by kernel_rfl) ?_
          refine .consA (.move .none (.s rfl)) rfl ?_
          refine .consA (.lenO (k := 5001) sl32 (.told (.s rfl) rfl)) rfl ?_
          refine .consA (.subW .none (.s rfl) (.int (by decide))) rfl ?_
          obtain ⟨i1, hv17, h⟩ := bnd_some h
          refine .consA (.re hv17 (.assign .none (.s rfl))) rfl ?_
          refine .nil ?_
          refine .then ?_
          obtain ⟨j_18, h, hK18⟩ := bind_some h
          refine .thenJ (ι := (List Int)) (fun j_18 => []) (fun j_18 => [(5001, some (CPred.at s5001 (rowV 3 j_18)))]) (fun s => j_18 = s) (.cons (t := 4) rfl (.cons (t := 6) rfl (.cons (t := 13) rfl (.cons (t := 17) rfl Sub.nil)))) SubB.nil ?_ (fun j_18' hj18 => ?_)
          · skip
            refine .block ?_
            refine .loopL h (fun s19_ => [(3, ⟨True, rep s19_.1⟩), (18, ⟨True, rep s19_.2.1⟩)]) (fun s19_ => [(5001, some (CPred.at s5001 (rowV 3 s19_.2.2)))]) (.cons (t := 3) rfl (.cons (t := 18) rfl Sub.nil)) (.cons (t := 5001) rfl SubB.nil) (.cons (t := 4) rfl (.cons (t := 6) rfl (.cons (t := 13) rfl (.cons (t := 17) rfl Sub.nil)))) SubB.nil (fun s19_ o_19 h hD19 => ?_)
            unfold law_OrdersMatch_L1 at h
            refine .seq ?_
            refine .seq ?_
            refine .region [] mixed (by kernel_rfl) ?_
            refine .cons (.move .none (.s rfl)) rfl ?_
            refine .cons (.gt .none (.s rfl) (.int (by decide))) rfl ?_
            refine .nil ?_
            refine .then ?_
            refine .cond (t := 127) rfl trivial (fun hb20 => ?_) (fun hb20 => ?_)
            · replace h := bif_t h hb20
              refine .skip ?_
              refine .then ?_
              refine .seq ?_
              refine .block ?_
              refine .seq ?_
              refine .region [] mixed (by kernel_rfl) ?_
              refine .cons (.move .none (.s rfl)) rfl ?_
              refine .cons (.kmul .none (.s rfl) .ki) rfl ?_
              refine .cons (.kadd .none (.s rfl) .ki) rfl ?_
              obtain ⟨seed2, hv21, h⟩ := bnd_some h
              refine .cons (.re hv21 (.assign .none (.s rfl))) rfl ?_
              refine .nil ?_
              refine .then ?_
              refine .seq ?_
              refine .region [] mixed (by kernel_rfl) ?_
              refine .cons (.move .none (.s rfl)) rfl ?_
              refine .cons (.kshr .none (.s rfl) .ki (fun _ => by decide)) rfl ?_
              refine .cons (.toInt .none (by kernel_rfl) Try.underlying3 (.s rfl)) rfl ?_
              refine .cons (.move .none (.s rfl)) rfl ?_
              refine .cons (.addW .none (.s rfl) (.int (by decide))) rfl ?_
              obtain ⟨hn22, h⟩ := need_some h
              refine .cons (.rem .none (.s rfl) (.s rfl) (fun _ => hn22)) rfl ?_
              obtain ⟨k1, hv23, h⟩ := bnd_some h
              refine .cons (.re hv23 (.assign .none (.s rfl))) rfl ?_
              refine .nil ?_
              refine .then ?_
              refine .region [([], []), ([], []), ([], []), ([], []), ([], []), ([], []), ([5001], []), ([5001], []), ([], []), ([], []), ([5001], []), ([5001], []), ([5001], []), ([5001], [5001]), ([5001], []), ([5001], [5001])] mixed (by kernel_rfl) ?_
              refine .consA (.move .none (.s rfl)) rfl ?_
              refine .consA (.move .none (.s rfl)) rfl ?_
              refine .consA (.move .none (.s rfl)) rfl ?_
              refine .consA (.move .none (.s rfl)) rfl ?_
              refine .consA (.move .none (.s rfl)) rfl ?_
              refine .consA (.move .none (.s rfl)) rfl ?_
              obtain ⟨hn24, h⟩ := need_some h
              refine .consA (.indexAddrO (k := 5001) .none sl32 ty3 (.s rfl) rfl (.s rfl) (fun _ => hn24)) rfl ?_
              obtain ⟨v1, hv25, h⟩ := bnd_some h
              refine .consA (.re hv25 (.loadElem0 (k := 5001) .none ty3 (.s rfl) rfl (fun _ => hn24))) rfl ?_
              refine .consA (.move .none (.s rfl)) rfl ?_
              refine .consA (.move .none (.s rfl)) rfl ?_
              obtain ⟨hn26, h⟩ := need_some h
              refine .consA (.indexAddrO (k := 5001) .none sl32 ty3 (.s rfl) rfl (.s rfl) (fun _ => hn26)) rfl ?_
              obtain ⟨v2, hv27, h⟩ := bnd_some h
              refine .consA (.re hv27 (.loadElem0 (k := 5001) .none ty3 (.s rfl) rfl (fun _ => hn26))) rfl ?_
              obtain ⟨hn28, h⟩ := need_some h
              refine .consA (.indexAddrO (k := 5001) .none sl32 ty3 (.s rfl) rfl (.s rfl) (fun _ => hn28)) rfl ?_
              refine .consN (.storeElem0 (k := 5001) ty3 (.s rfl) rfl (.s rfl) hn28) rfl ?_
              obtain ⟨hn29, h⟩ := need_some h
              refine .consA (.indexAddrO (k := 5001) .none sl32 ty3 (.s rfl) rfl (.s rfl) (fun _ => hn29)) rfl ?_
              refine .consN (.storeElem0 (k := 5001) ty3 (.s rfl) rfl (.s rfl) hn29) rfl ?_
              refine .nil ?_
              refine .blkNormal ?_
              refine .then ?_
              obtain ⟨other2, hv30, h⟩ := bnd_some h
              refine .reB (t := 5001) rfl (congrArg (fun y => CPred.at s5001 (rowV 3 y)) hv30) ?_
              refine .region [] mixed (by kernel_rfl) ?_
              refine .cons (.move .none (.s rfl)) rfl ?_
              refine .cons (.subW .none (.s rfl) (.int (by decide))) rfl ?_
              obtain ⟨i2, hv31, h⟩ := bnd_some h
              refine .cons (.re hv31 (.assign .none (.s rfl))) rfl ?_
              refine .nil ?_
              exact Ends.againL (some_eq h) (.cons (t := 3) rfl (.cons (t := 18) rfl (.cons (t := 4) rfl (.cons (t := 6) rfl (.cons (t := 13) rfl (.cons (t := 17) rfl Sub.nil)))))) (.cons (t := 5001) rfl SubB.nil)
            · replace h := bif_f h hb20
              refine .exit ?_
              refine .thenExit ?_
              refine .thenExit ?_
              refine .blkExit ?_
              replace h := hD19 _ (some_eq h)
              exact Ends.join _ (some_eq h) (.cons (t := 4) rfl (.cons (t := 6) rfl (.cons (t := 13) rfl (.cons (t := 17) rfl Sub.nil)))) (.cons (t := 5001) rfl SubB.nil)
          · subst hj18; have h := hK18; clear hK18
            refine .freezeRow (g := 5001) (ts := [17]) rfl (.cons (t := 17) rfl trivial .nil) SubB.nil rfl ?_
            refine .seq ?_
            refine .region [] mixed (by kernel_rfl) ?_
            refine .cons (.load .none ty32 (.s rfl)) rfl ?_
            refine .cons (.move .none (.s rfl)) rfl ?_
            refine .cons (.load .none ty23 (.s rfl)) rfl ?_
            obtain ⟨r10, hv32, h⟩ := bind_some h
            refine .cons (.call .none (ref_CrossingsOf_ok hv32) (.cons (.s rfl) (.cons (.s rfl) (.cons (.s rfl) .nil)))) rfl ?_
            refine .cons (.move .none (.s rfl)) rfl ?_
            refine .cons (.ge .none (.s rfl) (.s rfl)) rfl ?_
            refine .cons (.assign .none (.s rfl)) rfl ?_
            refine .nil ?_
            refine .then ?_
            refine .ret ?_
            obtain rfl := some_eq h
            exact Ends.ret1 (.inl rfl) Try.results7 (ResOK.tmp rfl trivial Imp.refl)


end Go.Proofs.Ytbahnfkccdlpnaa
