/-
  The walks: what a function computes is what its plain function says (printed by a program of one's own).
-/
import Derived.Test.YtakkmmhjohadaaaTidWa1
set_option maxRecDepth 100000
set_option linter.unusedSimpArgs false
set_option linter.unusedVariables false
namespace Go.Proofs.Ytakkmmhjohadaaa
open Go Go.DB Go.RowKit

theorem law_TidiesAreTidy_1_okS {self : (Int × Int × (List Point) × Int × Int × (List Branch)) → Option Bool} (hself : ∀ {m63 : Nat} (x : (Int × Int × (List Point) × Int × Int × (List Branch))) (r : Bool), self x = some r → FSpecO Try.prog 36 [rep x.1, rep x.2.1, ref x.2.2.1, ref x.2.2.2.1, ref x.2.2.2.2.1, ref x.2.2.2.2.2, isV (ptr m63 0)] [(ptr m63 0, contS 68 (cloV 36 [ref x.2.2.1, ref x.2.2.2.1, ref x.2.2.2.2.1, ref x.2.2.2.2.2, isV (ptr m63 0)]))] (rep r) [some (contS 68 (cloV 36 [ref x.2.2.1, ref x.2.2.2.1, ref x.2.2.2.2.1, ref x.2.2.2.2.2, isV (ptr m63 0)]))]) {m63 : Nat} {x : (Int × Int × (List Point) × Int × Int × (List Branch))} {r : Bool} (h : law_TidiesAreTidy_1_body self x = some r) : FSpecO Try.prog 36 [rep x.1, rep x.2.1, ref x.2.2.1, ref x.2.2.2.1, ref x.2.2.2.2.1, ref x.2.2.2.2.2, isV (ptr m63 0)] [(ptr m63 0, contS 68 (cloV 36 [ref x.2.2.1, ref x.2.2.2.1, ref x.2.2.2.2.1, ref x.2.2.2.2.2, isV (ptr m63 0)]))] (rep r) [some (contS 68 (cloV 36 [ref x.2.2.1, ref x.2.2.2.1, ref x.2.2.2.2.1, ref x.2.2.2.2.2, isV (ptr m63 0)]))] := by
  unfold law_TidiesAreTidy_1_body at h
  refine FSpecO.intro (n := 63) fnok36 Try.func36 rfl Try.ntmps36 rfl (fun F => ?_)
  refine Cod.seq ?_
  refine Cod.region [] mixed (by kernel_rfl) ?_
  refine Chain.cons (StepOK.assign .none .bool) rfl ?_
  refine Chain.nil ?_
  refine Ends.then ?_
  refine Cod.seq ?_
  refine Cod.seq ?_
  refine Cod.region [] mixed (by kernel_rfl) ?_
  refine Chain.cons (StepOK.load .none ty39 (.tmp rfl (fun _ => trivial))) rfl ?_
  refine Chain.cons (StepOK.move .none (.tmp rfl (fun _ => trivial))) rfl ?_
  obtain ⟨hn1, h⟩ := need_some h
  refine Chain.cons (StepOK.indexAddr .none sl39 ty47 (.tmp rfl (fun _ => trivial)) (.tmp rfl (fun _ => trivial)) (fun _ => hn1)) rfl ?_
  refine Chain.cons (StepOK.fieldAddr .none fd47_0 hfd47_0 (.tmp rfl (fun _ => trivial))) rfl ?_
  refine Chain.cons (StepOK.load .none ty3 (.tmp rfl (fun _ => trivial))) rfl ?_
  refine Chain.cons (StepOK.load .none ty39 (.tmp rfl (fun _ => trivial))) rfl ?_
  refine Chain.cons (StepOK.load .none ty3 (.tmp rfl (fun _ => trivial))) rfl ?_
  obtain ⟨hn2, h⟩ := need_some h
  refine Chain.cons (StepOK.indexAddr .none sl39 ty47 (.tmp rfl (fun _ => trivial)) (.tmp rfl (fun _ => trivial)) (fun _ => hn2)) rfl ?_
  refine Chain.cons (StepOK.fieldAddr .none fd47_0 hfd47_0 (.tmp rfl (fun _ => trivial))) rfl ?_
  refine Chain.cons (StepOK.load .none ty3 (.tmp rfl (fun _ => trivial))) rfl ?_
  refine Chain.cons (StepOK.subW .none (.tmp rfl (fun _ => trivial)) (.tmp rfl (fun _ => trivial))) rfl ?_
  refine Chain.cons (StepOK.load .none ty39 (.tmp rfl (fun _ => trivial))) rfl ?_
  refine Chain.cons (StepOK.move .none (.tmp rfl (fun _ => trivial))) rfl ?_
  obtain ⟨hn3, h⟩ := need_some h
  refine Chain.cons (StepOK.indexAddr .none sl39 ty47 (.tmp rfl (fun _ => trivial)) (.tmp rfl (fun _ => trivial)) (fun _ => hn3)) rfl ?_
  refine Chain.cons (StepOK.fieldAddr .none fd47_0 hfd47_0 (.tmp rfl (fun _ => trivial))) rfl ?_
  refine Chain.cons (StepOK.load .none ty3 (.tmp rfl (fun _ => trivial))) rfl ?_
  refine Chain.cons (StepOK.load .none ty39 (.tmp rfl (fun _ => trivial))) rfl ?_
  refine Chain.cons (StepOK.load .none ty3 (.tmp rfl (fun _ => trivial))) rfl ?_
  obtain ⟨hn4, h⟩ := need_some h
  refine Chain.cons (StepOK.indexAddr .none sl39 ty47 (.tmp rfl (fun _ => trivial)) (.tmp rfl (fun _ => trivial)) (fun _ => hn4)) rfl ?_
  refine Chain.cons (StepOK.fieldAddr .none fd47_0 hfd47_0 (.tmp rfl (fun _ => trivial))) rfl ?_
  refine Chain.cons (StepOK.load .none ty3 (.tmp rfl (fun _ => trivial))) rfl ?_
  refine Chain.cons (StepOK.subW .none (.tmp rfl (fun _ => trivial)) (.tmp rfl (fun _ => trivial))) rfl ?_
  refine Chain.cons (StepOK.neI .none (.tmp rfl (fun _ => trivial)) (.tmp rfl (fun _ => trivial))) rfl ?_
  refine Chain.nil ?_
  refine Ends.then ?_
  refine Cod.cond (t := 33) rfl trivial (fun hb5 => ?_) (fun hb5 => ?_)
  · replace h := bif_t h hb5
    refine Cod.seq ?_
    refine Cod.region [] mixed (by kernel_rfl) ?_
    refine Chain.cons (StepOK.assign .none .bool) rfl ?_
    refine Chain.nil ?_
    refine Ends.then ?_
    refine Cod.ret ?_
    refine Ends.thenRet ?_
    obtain rfl := some_eq h
    exact Ends.ret1O (.inl rfl) [63] Try.results36 (by decide) (.held rfl .nil) (ResOK.tmp rfl trivial Imp.refl)
  · replace h := bif_f h hb5
    refine Cod.skip ?_
    refine Ends.then ?_
    refine Cod.seq ?_
    refine Cod.seq ?_
    refine Cod.region [] mixed (by kernel_rfl) ?_
    refine Chain.cons (StepOK.load .none ty56 (.tmp rfl (fun _ => trivial))) rfl ?_
    refine Chain.cons (StepOK.move .none (.tmp rfl (fun _ => trivial))) rfl ?_
    obtain ⟨hn6, h⟩ := need_some h
    refine Chain.cons (StepOK.indexAddr .none sl56 ty67 (.tmp rfl (fun _ => trivial)) (.tmp rfl (fun _ => trivial)) (fun _ => hn6)) rfl ?_
    refine Chain.cons (StepOK.fieldAddr .none fd67_2 hfd67_2 (.tmp rfl (fun _ => trivial))) rfl ?_
    refine Chain.cons (StepOK.load .none ty23 (.tmp rfl (fun _ => trivial))) rfl ?_
    refine Chain.cons (StepOK.len .none sl23 (.tmp rfl (fun _ => trivial))) rfl ?_
    refine Chain.cons (StepOK.move .none (.int (by decide))) rfl ?_
    refine Chain.nil ?_
    refine Ends.then ?_
    obtain ⟨o_7, h, hK7⟩ := bindR_some h
    refine Cod.thenJ (ι := Unit) (fun j_7 => []) (fun j_7 => []) (fun s => o_7 = Res.nx s) (.cons (t := 6) rfl Sub.nil) (.cons (t := 63) rfl SubB.nil) ?_ (fun j_7 hj7 => ?_)
    · skip
      refine Cod.block ?_
      refine Cod.rforEL h (fun p8_ => [(40, ⟨True, rep p8_.1⟩)]) (fun p8_ => []) (.cons (t := 40) rfl Sub.nil) SubB.nil (.cons (t := 0) rfl (.cons (t := 1) rfl (.cons (t := 2) rfl (.cons (t := 3) rfl (.cons (t := 4) rfl (.cons (t := 5) rfl (.cons (t := 6) rfl (.cons (t := 39) rfl Sub.nil)))))))) (.cons (t := 63) rfl SubB.nil) (fun p8_ o_8 h hD8 => ?_)
      refine Cod.seq ?_
      refine Cod.region [] mixed (by kernel_rfl) ?_
      refine Chain.cons (StepOK.lt .none (.tmp rfl (fun _ => trivial)) (.tmp rfl (fun _ => trivial))) rfl ?_
      refine Chain.nil ?_
      refine Ends.then ?_
      refine Cod.seq ?_
      refine Cod.cond (t := 41) rfl trivial (fun hb9 => ?_) (fun hb9 => ?_)
      · replace h := bif_t h hb9
        refine Cod.skip ?_
        refine Ends.then ?_
        refine Cod.seq ?_
        obtain ⟨o_10, h, hK10⟩ := bindD_some h
        unfold law_TidiesAreTidy_1_L1 at h
        refine Cod.thenJ (ι := Unit) (fun j_10 => []) (fun j_10 => []) (fun s => o_10 = Res.nx s) (.cons (t := 0) rfl (.cons (t := 1) rfl (.cons (t := 2) rfl (.cons (t := 3) rfl (.cons (t := 4) rfl (.cons (t := 5) rfl (.cons (t := 6) rfl (.cons (t := 39) rfl (.cons (t := 40) rfl Sub.nil))))))))) (.cons (t := 63) rfl SubB.nil) ?_ (fun j_10 hj10 => ?_)
        · skip
          refine Cod.block ?_
          refine Cod.seq ?_
          refine Cod.region [] mixed (by kernel_rfl) ?_
          refine Chain.cons (StepOK.move .none (.tmp rfl (fun _ => trivial))) rfl ?_
          refine Chain.cons (StepOK.assign .none (.tmp rfl (fun _ => trivial))) rfl ?_
          refine Chain.nil ?_
          refine Ends.then ?_
          refine Cod.seq ?_
          refine Cod.region [([63], []), ([], []), ([], []), ([], []), ([], []), ([], []), ([], []), ([], []), ([], []), ([], []), ([], []), ([], []), ([], []), ([], []), ([], []), ([], []), ([], []), ([63], [63]), ([], [])] mixed (by kernel_rfl) ?_
          refine Chain.consA (StepOK.loadS (k := 63) .none tr68 rfl (.tmp rfl (fun _ => trivial)) cloV_one) rfl ?_
          refine Chain.consA (StepOK.load .none ty56 (.tmp rfl (fun _ => trivial))) rfl ?_
          refine Chain.consA (StepOK.move .none (.tmp rfl (fun _ => trivial))) rfl ?_
          obtain ⟨hn11, h⟩ := need_some h
          refine Chain.consA (StepOK.indexAddr .none sl56 ty67 (.tmp rfl (fun _ => trivial)) (.tmp rfl (fun _ => trivial)) (fun _ => hn11)) rfl ?_
          refine Chain.consA (StepOK.fieldAddr .none fd67_2 hfd67_2 (.tmp rfl (fun _ => trivial))) rfl ?_
          refine Chain.consA (StepOK.load .none ty23 (.tmp rfl (fun _ => trivial))) rfl ?_
          refine Chain.consA (StepOK.move .none (.tmp rfl (fun _ => trivial))) rfl ?_
          obtain ⟨hn12, h⟩ := need_some h
          refine Chain.consA (StepOK.indexAddr .none sl23 ty3 (.tmp rfl (fun _ => trivial)) (.tmp rfl (fun _ => trivial)) (fun _ => hn12)) rfl ?_
          refine Chain.consA (StepOK.load .none ty3 (.tmp rfl (fun _ => trivial))) rfl ?_
          refine Chain.consA (StepOK.load .none ty56 (.tmp rfl (fun _ => trivial))) rfl ?_
          refine Chain.consA (StepOK.move .none (.tmp rfl (fun _ => trivial))) rfl ?_
          obtain ⟨hn13, h⟩ := need_some h
          refine Chain.consA (StepOK.indexAddr .none sl56 ty67 (.tmp rfl (fun _ => trivial)) (.tmp rfl (fun _ => trivial)) (fun _ => hn13)) rfl ?_
          refine Chain.consA (StepOK.fieldAddr .none fd67_2 hfd67_2 (.tmp rfl (fun _ => trivial))) rfl ?_
          refine Chain.consA (StepOK.load .none ty23 (.tmp rfl (fun _ => trivial))) rfl ?_
          refine Chain.consA (StepOK.move .none (.tmp rfl (fun _ => trivial))) rfl ?_
          obtain ⟨hn14, h⟩ := need_some h
          refine Chain.consA (StepOK.indexAddr .none sl23 ty3 (.tmp rfl (fun _ => trivial)) (.tmp rfl (fun _ => trivial)) (fun _ => hn14)) rfl ?_
          refine Chain.consA (StepOK.load .none ty3 (.tmp rfl (fun _ => trivial))) rfl ?_
          obtain ⟨r1, hv15, h⟩ := bind_some h
          refine Chain.consW (StepOK.callClo [63] (Ss := [rep (gx ((gx x.2.2.2.2.2 x.1).Kids) p8_.1), rep (gx ((gx x.2.2.2.2.2 x.2.1).Kids) p8_.1)]) (Cs := [ref x.2.2.1, ref x.2.2.2.1, ref x.2.2.2.2.1, ref x.2.2.2.2.2, isV (ptr m63 0)]) (.tmp rfl (fun _ => trivial)) (hself _ _ hv15) (.cons (.tmp rfl (fun _ => trivial)) (.cons (.tmp rfl (fun _ => trivial)) .nil)) (.cons (k := 63) rfl .nil) rfl (by decide) (by decide) (by intro d h; cases h; decide)) rfl rfl ?_
          refine Chain.consA (StepOK.not .none (.tmp rfl (fun _ => trivial))) rfl ?_
          refine Chain.nil ?_
          refine Ends.then ?_
          refine Cod.cond (t := 61) rfl trivial (fun hb16 => ?_) (fun hb16 => ?_)
          · replace h := bif_t h hb16
            refine Cod.seq ?_
            refine Cod.region [] mixed (by kernel_rfl) ?_
            refine Chain.cons (StepOK.assign .none .bool) rfl ?_
            refine Chain.nil ?_
            refine Ends.then ?_
            refine Cod.ret ?_
            refine Ends.blkRet ?_
            refine Ends.thenRet ?_
            refine Ends.thenRet ?_
            refine Ends.blkRet ?_
            refine Ends.thenRet ?_
            replace h := resd_ab hK10 (some_eq h)
            replace h := hD8 _ (some_eq h)
            replace h := resb_ab hK7 (some_eq h)
            obtain rfl := some_eq h
            exact Ends.ret1O (.inl rfl) [63] Try.results36 (by decide) (.held rfl .nil) (ResOK.tmp rfl trivial Imp.refl)
          · replace h := bif_f h hb16
            refine Cod.skip ?_
            refine Ends.blkNormal ?_
            exact Ends.join _ (some_eq h) (.cons (t := 0) rfl (.cons (t := 1) rfl (.cons (t := 2) rfl (.cons (t := 3) rfl (.cons (t := 4) rfl (.cons (t := 5) rfl (.cons (t := 6) rfl (.cons (t := 39) rfl (.cons (t := 40) rfl Sub.nil))))))))) (.cons (t := 63) rfl SubB.nil)
        · have h := resd_nx hK10 hj10
          refine Cod.region [] mixed (by kernel_rfl) ?_
          refine Chain.cons (StepOK.addW .none (.tmp rfl (fun _ => trivial)) (.int (by decide))) rfl ?_
          refine Chain.cons (StepOK.move .none (.tmp rfl (fun _ => trivial))) rfl ?_
          refine Chain.nil ?_
          exact Ends.againL (some_eq h) (.cons (t := 40) rfl (.cons (t := 0) rfl (.cons (t := 1) rfl (.cons (t := 2) rfl (.cons (t := 3) rfl (.cons (t := 4) rfl (.cons (t := 5) rfl (.cons (t := 6) rfl (.cons (t := 39) rfl Sub.nil))))))))) (.cons (t := 63) rfl SubB.nil)
      · replace h := bif_f h hb9
        refine Cod.exit ?_
        refine Ends.thenExit ?_
        refine Ends.thenExit ?_
        refine Ends.blkExit ?_
        replace h := hD8 _ (some_eq h)
        exact Ends.join _ (some_eq h) (.cons (t := 6) rfl Sub.nil) (.cons (t := 63) rfl SubB.nil)
    · have h := resb_nx hK7 hj7
      refine Cod.seq ?_
      refine Cod.region [] mixed (by kernel_rfl) ?_
      refine Chain.cons (StepOK.assign .none .bool) rfl ?_
      refine Chain.nil ?_
      refine Ends.then ?_
      refine Cod.ret ?_
      obtain rfl := some_eq h
      exact Ends.ret1O (.inl rfl) [63] Try.results36 (by decide) (.held rfl .nil) (ResOK.tmp rfl trivial Imp.refl)
theorem law_TidiesAreTidy_1_okN : ∀ (k : Nat) {m63 : Nat} (x : (Int × Int × (List Point) × Int × Int × (List Branch))) (r : Bool) (h : fixN law_TidiesAreTidy_1_body k x = some r), FSpecO Try.prog 36 [rep x.1, rep x.2.1, ref x.2.2.1, ref x.2.2.2.1, ref x.2.2.2.2.1, ref x.2.2.2.2.2, isV (ptr m63 0)] [(ptr m63 0, contS 68 (cloV 36 [ref x.2.2.1, ref x.2.2.2.1, ref x.2.2.2.2.1, ref x.2.2.2.2.2, isV (ptr m63 0)]))] (rep r) [some (contS 68 (cloV 36 [ref x.2.2.1, ref x.2.2.2.1, ref x.2.2.2.2.1, ref x.2.2.2.2.2, isV (ptr m63 0)]))]
  | 0, _, x, r, h => by simp [fixN] at h
  | k + 1, _, x, r, h => law_TidiesAreTidy_1_okS (law_TidiesAreTidy_1_okN k) h
theorem law_TidiesAreTidy_1_ok {x1 : Int} {y1 : Int} {c0_1 : (List Point)} {c1_1 : Int} {c2_1 : Int} {c3_1 : (List Branch)} {r : Bool} {m63 : Nat} (h : law_TidiesAreTidy_1 x1 y1 c0_1 c1_1 c2_1 c3_1 = some r) : FSpecO Try.prog 36 [rep x1, rep y1, ref c0_1, ref c1_1, ref c2_1, ref c3_1, isV (ptr m63 0)] [(ptr m63 0, contS 68 (cloV 36 [ref c0_1, ref c1_1, ref c2_1, ref c3_1, isV (ptr m63 0)]))] (rep r) [some (contS 68 (cloV 36 [ref c0_1, ref c1_1, ref c2_1, ref c3_1, isV (ptr m63 0)]))] :=
  let ⟨k, hk⟩ := fixp_some h
  law_TidiesAreTidy_1_okN k (x1, y1, c0_1, c1_1, c2_1, c3_1) r hk

theorem law_TidiesAreTidy_ok {t1 : (List Branch)} {gapx1 : Int} {gapy1 : Int} {a1 : Int} {b1 : Int} {r : Bool}  (h : law_TidiesAreTidy t1 gapx1 gapy1 a1 b1 = some r) : FSpec Try.prog 7 [rep t1, rep gapx1, rep gapy1, rep a1, rep b1] (rep r) := by
  unfold law_TidiesAreTidy at h
  refine FSpec.intro (n := 138) fnok7 Try.func7 rfl Try.ntmps7 rfl (fun F => ?_)
  refine Cod.seq ?_
  refine Cod.region [] mixed (by kernel_rfl) ?_
  refine Chain.cons (StepOK.box .none (.tmp rfl (fun _ => trivial))) rfl ?_
  refine Chain.cons (StepOK.box .none (.tmp rfl (fun _ => trivial))) rfl ?_
  refine Chain.cons (StepOK.box .none (.tmp rfl (fun _ => trivial))) rfl ?_
  refine Chain.cons (StepOK.assign .none .bool) rfl ?_
  refine Chain.nil ?_
  refine Ends.then ?_
  refine Cod.seq ?_
  refine Cod.region [([], []), ([], []), ([], []), ([], []), ([], []), ([], []), ([], []), ([], [11]), ([11], [11]), ([], [])] mixed (by kernel_rfl) ?_
  refine Chain.consA (StepOK.load .none ty56 (.tmp rfl (fun _ => trivial))) rfl ?_
  refine Chain.consA (StepOK.move .none (.tmp rfl (fun _ => trivial))) rfl ?_
  refine Chain.consA (StepOK.move .none (.tmp rfl (fun _ => trivial))) rfl ?_
  obtain ⟨r1, hv1, h⟩ := bind_some h
  refine Chain.consA (StepOK.call .none (tree_Tidy_ok hv1) (.cons (.tmp rfl (fun _ => trivial)) (.cons (.tmp rfl (fun _ => trivial)) (.cons (.tmp rfl (fun _ => trivial)) .nil)))) rfl ?_
  refine Chain.consA (StepOK.move .none (.tmp rfl (fun _ => trivial))) rfl ?_
  refine Chain.consA (StepOK.extract .none (.tmp rfl (fun _ => trivial)) rfl) rfl ?_
  refine Chain.consA (StepOK.extract .none (.tmp rfl (fun _ => trivial)) rfl) rfl ?_
  refine Chain.consW (StepOK.alloc zo39 rfl) rfl rfl ?_
  refine Chain.consN (StepOK.store ty39 rfl rfl (.tmp rfl (fun _ => trivial))) rfl ?_
  refine Chain.consA (StepOK.assign .none (.tmp rfl (fun _ => trivial))) rfl ?_
  refine Chain.nil ?_
  refine Ends.then ?_
  refine Cod.freeze (t := 11) rfl rfl SubB.nil rfl ?_
  refine Cod.seq ?_
  refine Cod.seq ?_
  refine Cod.region [] mixed (by kernel_rfl) ?_
  obtain ⟨r2, hv2, h⟩ := bind_some h
  refine Chain.cons (StepOK.call .none (law_trees_ok hv2) .nil) rfl ?_
  refine Chain.cons (StepOK.not .none (.tmp rfl (fun _ => trivial))) rfl ?_
  refine Chain.cons (StepOK.move .none (.tmp rfl (fun _ => trivial))) rfl ?_
  refine Chain.cons (StepOK.move (.at rfl rfl) (.tmp rfl (fun _ => trivial))) rfl ?_
  refine Chain.cons (StepOK.neI (.at rfl rfl) (.tmp rfl id) (.int (by decide))) rfl ?_
  refine Chain.cons (StepOK.pickOr .none (.tmp rfl (fun _ => trivial)) (.tmp rfl id)) rfl ?_
  refine Chain.cons (StepOK.move .none (.tmp rfl (fun _ => trivial))) rfl ?_
  refine Chain.cons (StepOK.load (.at rfl rfl) ty39 (.tmp rfl (fun _ => trivial))) rfl ?_
  refine Chain.cons (StepOK.len (.at rfl rfl) sl39 (.tmp rfl id)) rfl ?_
  refine Chain.cons (StepOK.load (.at rfl rfl) ty56 (.tmp rfl (fun _ => trivial))) rfl ?_
  refine Chain.cons (StepOK.len (.at rfl rfl) sl56 (.tmp rfl id)) rfl ?_
  refine Chain.cons (StepOK.neI (.at rfl rfl) (.tmp rfl id) (.tmp rfl id)) rfl ?_
  refine Chain.cons (StepOK.pickOr .none (.tmp rfl (fun _ => trivial)) (.tmp rfl id)) rfl ?_
  refine Chain.nil ?_
  refine Ends.then ?_
  refine Cod.cond (t := 40) rfl trivial (fun hb3 => ?_) (fun hb3 => ?_)
  · replace h := bif_t h hb3
    refine Cod.seq ?_
    refine Cod.region [] mixed (by kernel_rfl) ?_
    obtain ⟨r3, hv4, h⟩ := bind_some h
    refine Chain.cons (StepOK.call .none (law_trees_ok hv4) .nil) rfl ?_
    refine Chain.cons (StepOK.move .none (.tmp rfl (fun _ => trivial))) rfl ?_
    refine Chain.cons (StepOK.move (.at rfl rfl) (.tmp rfl (fun _ => trivial))) rfl ?_
    refine Chain.cons (StepOK.neI (.at rfl rfl) (.tmp rfl id) (.int (by decide))) rfl ?_
    refine Chain.cons (StepOK.pickAnd .none (.tmp rfl (fun _ => trivial)) (.tmp rfl id)) rfl ?_
    refine Chain.cons (StepOK.move .none (.tmp rfl (fun _ => trivial))) rfl ?_
    refine Chain.cons (StepOK.load (.at rfl rfl) ty39 (.tmp rfl (fun _ => trivial))) rfl ?_
    refine Chain.cons (StepOK.len (.at rfl rfl) sl39 (.tmp rfl id)) rfl ?_
    refine Chain.cons (StepOK.eqI (.at rfl rfl) (.tmp rfl id) (.int (by decide))) rfl ?_
    refine Chain.cons (StepOK.pickAnd .none (.tmp rfl (fun _ => trivial)) (.tmp rfl id)) rfl ?_
    refine Chain.cons (StepOK.assign .none (.tmp rfl (fun _ => trivial))) rfl ?_
    refine Chain.nil ?_
    refine Ends.then ?_
    refine Cod.ret ?_
    refine Ends.thenRet ?_
    obtain rfl := some_eq h
    exact Ends.ret1 (.inl rfl) Try.results7 (ResOK.tmp rfl trivial Imp.refl)
  · replace h := bif_f h hb3
    refine Cod.skip ?_
    refine Ends.then ?_
    refine Cod.seq ?_
    refine Cod.region [] mixed (by kernel_rfl) ?_
    refine Chain.cons (StepOK.load .none ty39 (.tmp rfl (fun _ => trivial))) rfl ?_
    obtain ⟨hn5, h⟩ := need_some h
    refine Chain.cons (StepOK.indexAddr .none sl39 ty47 (.tmp rfl (fun _ => trivial)) (.int (by decide)) (fun _ => hn5)) rfl ?_
    refine Chain.cons (StepOK.fieldAddr .none fd47_0 hfd47_0 (.tmp rfl (fun _ => trivial))) rfl ?_
    refine Chain.cons (StepOK.load .none ty3 (.tmp rfl (fun _ => trivial))) rfl ?_
    obtain ⟨low1, hv6, h⟩ := bnd_some h
    refine Chain.cons (StepOK.re hv6 (StepOK.assign .none (.tmp rfl (fun _ => trivial)))) rfl ?_
    refine Chain.nil ?_
    refine Ends.then ?_
    refine Cod.seq ?_
    refine Cod.seq ?_
    refine Cod.region [] mixed (by kernel_rfl) ?_
    refine Chain.cons (StepOK.load .none ty56 (.tmp rfl (fun _ => trivial))) rfl ?_
    obtain ⟨r4, hv7, h⟩ := bind_some h
    refine Chain.cons (StepOK.call .none (ref_LevelsOf_ok hv7) (.cons (.tmp rfl (fun _ => trivial)) .nil)) rfl ?_
    refine Chain.cons (StepOK.len .none sl64 (.tmp rfl (fun _ => trivial))) rfl ?_
    refine Chain.cons (StepOK.move .none (.int (by decide))) rfl ?_
    refine Chain.nil ?_
    refine Ends.then ?_
    obtain ⟨o_8, h, hK8⟩ := bindR_some h
    refine Cod.thenJ (ι := Int) (fun j_8 => [(13, ⟨True, rep j_8⟩)]) (fun j_8 => []) (fun s => o_8 = Res.nx s) (.cons (t := 5) rfl (.cons (t := 8) rfl (.cons (t := 9) rfl (.cons (t := 11) rfl Sub.nil)))) SubB.nil ?_ (fun j_8 hj8 => ?_)
    · skip
      refine Cod.block ?_
      refine Cod.rforEL h (fun p9_ => [(58, ⟨True, rep p9_.1⟩), (13, ⟨True, rep p9_.2⟩)]) (fun p9_ => []) (.cons (t := 58) rfl (.cons (t := 13) rfl Sub.nil)) SubB.nil (.cons (t := 1) rfl (.cons (t := 5) rfl (.cons (t := 8) rfl (.cons (t := 9) rfl (.cons (t := 11) rfl (.cons (t := 56) rfl (.cons (t := 57) rfl Sub.nil))))))) SubB.nil (fun p9_ o_9 h hD9 => ?_)
      refine Cod.seq ?_
      refine Cod.region [] mixed (by kernel_rfl) ?_
      refine Chain.cons (StepOK.lt .none (.tmp rfl (fun _ => trivial)) (.tmp rfl (fun _ => trivial))) rfl ?_
      refine Chain.nil ?_
      refine Ends.then ?_
      refine Cod.seq ?_
      refine Cod.cond (t := 59) rfl trivial (fun hb10 => ?_) (fun hb10 => ?_)
      · replace h := bif_t h hb10
        refine Cod.skip ?_
        refine Ends.then ?_
        refine Cod.seq ?_
        obtain ⟨o_11, h, hK11⟩ := bindD_some h
        unfold law_TidiesAreTidy_L1 at h
        refine Cod.thenJ (ι := Int) (fun j_11 => [(13, ⟨True, rep j_11⟩)]) (fun j_11 => []) (fun s => o_11 = Res.nx s) (.cons (t := 1) rfl (.cons (t := 5) rfl (.cons (t := 8) rfl (.cons (t := 9) rfl (.cons (t := 11) rfl (.cons (t := 56) rfl (.cons (t := 57) rfl (.cons (t := 58) rfl Sub.nil)))))))) SubB.nil ?_ (fun j_11 hj11 => ?_)
        · skip
          refine Cod.block ?_
          refine Cod.seq ?_
          refine Cod.region [] mixed (by kernel_rfl) ?_
          obtain ⟨hn12, h⟩ := need_some h
          refine Chain.cons (StepOK.indexAddr .none sl64 ty23 (.tmp rfl (fun _ => trivial)) (.tmp rfl (fun _ => trivial)) (fun _ => hn12)) rfl ?_
          refine Chain.cons (StepOK.load .none ty23 (.tmp rfl (fun _ => trivial))) rfl ?_
          obtain ⟨l1, hv13, h⟩ := bnd_some h
          refine Chain.cons (StepOK.re hv13 (StepOK.assign .none (.tmp rfl (fun _ => trivial)))) rfl ?_
          refine Chain.nil ?_
          refine Ends.then ?_
          refine Cod.seq ?_
          refine Cod.region [] mixed (by kernel_rfl) ?_
          refine Chain.cons (StepOK.move .none (.tmp rfl (fun _ => trivial))) rfl ?_
          refine Chain.cons (StepOK.len .none sl23 (.tmp rfl (fun _ => trivial))) rfl ?_
          refine Chain.cons (StepOK.move .none (.int (by decide))) rfl ?_
          refine Chain.nil ?_
          refine Ends.then ?_
          refine Cod.block ?_
          refine Cod.rforEL h (fun p14_ => [(64, ⟨True, rep p14_.1⟩), (13, ⟨True, rep p14_.2⟩)]) (fun p14_ => []) (.cons (t := 64) rfl (.cons (t := 13) rfl Sub.nil)) SubB.nil (.cons (t := 1) rfl (.cons (t := 5) rfl (.cons (t := 8) rfl (.cons (t := 9) rfl (.cons (t := 11) rfl (.cons (t := 15) rfl (.cons (t := 56) rfl (.cons (t := 57) rfl (.cons (t := 58) rfl (.cons (t := 62) rfl (.cons (t := 63) rfl Sub.nil))))))))))) SubB.nil (fun p14_ o_14 h hD14 => ?_)
          refine Cod.seq ?_
          refine Cod.region [] mixed (by kernel_rfl) ?_
          refine Chain.cons (StepOK.lt .none (.tmp rfl (fun _ => trivial)) (.tmp rfl (fun _ => trivial))) rfl ?_
          refine Chain.nil ?_
          refine Ends.then ?_
          refine Cod.seq ?_
          refine Cod.cond (t := 65) rfl trivial (fun hb15 => ?_) (fun hb15 => ?_)
          · replace h := bif_t h hb15
            refine Cod.skip ?_
            refine Ends.then ?_
            refine Cod.seq ?_
            obtain ⟨o_16, h, hK16⟩ := bindD_some h
            unfold law_TidiesAreTidy_L2 at h
            refine Cod.thenJ (ι := Int) (fun j_16 => [(13, ⟨True, rep j_16⟩)]) (fun j_16 => []) (fun s => o_16 = Res.nx s) (.cons (t := 1) rfl (.cons (t := 5) rfl (.cons (t := 8) rfl (.cons (t := 9) rfl (.cons (t := 11) rfl (.cons (t := 15) rfl (.cons (t := 56) rfl (.cons (t := 57) rfl (.cons (t := 58) rfl (.cons (t := 62) rfl (.cons (t := 63) rfl (.cons (t := 64) rfl Sub.nil)))))))))))) SubB.nil ?_ (fun j_16 hj16 => ?_)
            · skip
              refine Cod.block ?_
              refine Cod.seq ?_
              refine Cod.region [] mixed (by kernel_rfl) ?_
              refine Chain.cons (StepOK.move .none (.tmp rfl (fun _ => trivial))) rfl ?_
              obtain ⟨hn17, h⟩ := need_some h
              refine Chain.cons (StepOK.indexAddr .none sl23 ty3 (.tmp rfl (fun _ => trivial)) (.tmp rfl (fun _ => trivial)) (fun _ => hn17)) rfl ?_
              refine Chain.cons (StepOK.load .none ty3 (.tmp rfl (fun _ => trivial))) rfl ?_
              refine Chain.cons (StepOK.assign .none (.tmp rfl (fun _ => trivial))) rfl ?_
              obtain ⟨n1, hv18, h⟩ := bnd_some h
              refine Chain.cons (StepOK.re hv18 (StepOK.assign .none (.tmp rfl (fun _ => trivial)))) rfl ?_
              refine Chain.nil ?_
              refine Ends.then ?_
              refine Cod.seq ?_
              refine Cod.region [] mixed (by kernel_rfl) ?_
              refine Chain.cons (StepOK.move .none (.tmp rfl (fun _ => trivial))) rfl ?_
              refine Chain.cons (StepOK.load .none ty39 (.tmp rfl (fun _ => trivial))) rfl ?_
              refine Chain.cons (StepOK.move .none (.tmp rfl (fun _ => trivial))) rfl ?_
              obtain ⟨hn19, h⟩ := need_some h
              refine Chain.cons (StepOK.indexAddr .none sl39 ty47 (.tmp rfl (fun _ => trivial)) (.tmp rfl (fun _ => trivial)) (fun _ => hn19)) rfl ?_
              refine Chain.cons (StepOK.fieldAddr .none fd47_0 hfd47_0 (.tmp rfl (fun _ => trivial))) rfl ?_
              refine Chain.cons (StepOK.load .none ty3 (.tmp rfl (fun _ => trivial))) rfl ?_
              refine Chain.cons (StepOK.min2 .none (.tmp rfl (fun _ => trivial)) (.tmp rfl (fun _ => trivial))) rfl ?_
              obtain ⟨low2, hv20, h⟩ := bnd_some h
              refine Chain.cons (StepOK.re hv20 (StepOK.assign .none (.tmp rfl (fun _ => trivial)))) rfl ?_
              refine Chain.nil ?_
              refine Ends.then ?_
              refine Cod.seq ?_
              refine Cod.region [] mixed (by kernel_rfl) ?_
              refine Chain.cons (StepOK.move .none (.tmp rfl (fun _ => trivial))) rfl ?_
              refine Chain.cons (StepOK.move .none (.tmp rfl (fun _ => trivial))) rfl ?_
              obtain ⟨hn21, h⟩ := need_some h
              obtain ⟨v1, hv22, h⟩ := bnd_some h
              refine Chain.cons (StepOK.re hv22 (StepOK.slice .none sl23 ty3 (.tmp rfl (fun _ => trivial)) rfl (.tmp rfl (fun _ => trivial)) (fun _ => hn21))) rfl ?_
              refine Chain.cons (StepOK.len .none sl23 (.tmp rfl (fun _ => trivial))) rfl ?_
              refine Chain.cons (StepOK.move .none (.int (by decide))) rfl ?_
              refine Chain.nil ?_
              refine Ends.then ?_
              obtain ⟨o_23, h, hK23⟩ := bindR_some h
              refine Cod.tailJ (ι := Unit) (fun j_23 => []) (fun j_23 => []) (fun s => o_23 = Res.nx s) (.cons (t := 1) rfl (.cons (t := 5) rfl (.cons (t := 8) rfl (.cons (t := 9) rfl (.cons (t := 11) rfl (.cons (t := 13) rfl (.cons (t := 15) rfl (.cons (t := 56) rfl (.cons (t := 57) rfl (.cons (t := 58) rfl (.cons (t := 62) rfl (.cons (t := 63) rfl (.cons (t := 64) rfl Sub.nil))))))))))))) SubB.nil ?_ (fun j_23 hj23 => ?_)
              · skip
                refine Cod.block ?_
                refine Cod.rforEL h (fun p24_ => [(80, ⟨True, rep p24_.1⟩)]) (fun p24_ => []) (.cons (t := 80) rfl Sub.nil) SubB.nil (.cons (t := 1) rfl (.cons (t := 5) rfl (.cons (t := 8) rfl (.cons (t := 9) rfl (.cons (t := 11) rfl (.cons (t := 13) rfl (.cons (t := 15) rfl (.cons (t := 17) rfl (.cons (t := 56) rfl (.cons (t := 57) rfl (.cons (t := 58) rfl (.cons (t := 62) rfl (.cons (t := 63) rfl (.cons (t := 64) rfl (.cons (t := 78) rfl (.cons (t := 79) rfl Sub.nil)))))))))))))))) SubB.nil (fun p24_ o_24 h hD24 => ?_)
                refine Cod.seq ?_
                refine Cod.region [] mixed (by kernel_rfl) ?_
                refine Chain.cons (StepOK.lt .none (.tmp rfl (fun _ => trivial)) (.tmp rfl (fun _ => trivial))) rfl ?_
                refine Chain.nil ?_
                refine Ends.then ?_
                refine Cod.seq ?_
                refine Cod.cond (t := 81) rfl trivial (fun hb25 => ?_) (fun hb25 => ?_)
                · replace h := bif_t h hb25
                  refine Cod.skip ?_
                  refine Ends.then ?_
                  refine Cod.seq ?_
                  obtain ⟨o_26, h, hK26⟩ := bindD_some h
                  unfold law_TidiesAreTidy_L3 at h
                  refine Cod.thenJ (ι := Unit) (fun j_26 => []) (fun j_26 => []) (fun s => o_26 = Res.nx s) (.cons (t := 1) rfl (.cons (t := 5) rfl (.cons (t := 8) rfl (.cons (t := 9) rfl (.cons (t := 11) rfl (.cons (t := 13) rfl (.cons (t := 15) rfl (.cons (t := 17) rfl (.cons (t := 56) rfl (.cons (t := 57) rfl (.cons (t := 58) rfl (.cons (t := 62) rfl (.cons (t := 63) rfl (.cons (t := 64) rfl (.cons (t := 78) rfl (.cons (t := 79) rfl (.cons (t := 80) rfl Sub.nil))))))))))))))))) SubB.nil ?_ (fun j_26 hj26 => ?_)
                  · skip
                    refine Cod.block ?_
                    refine Cod.seq ?_
                    refine Cod.region [] mixed (by kernel_rfl) ?_
                    obtain ⟨hn27, h⟩ := need_some h
                    refine Chain.cons (StepOK.indexAddr .none sl23 ty3 (.tmp rfl (fun _ => trivial)) (.tmp rfl (fun _ => trivial)) (fun _ => hn27)) rfl ?_
                    refine Chain.cons (StepOK.load .none ty3 (.tmp rfl (fun _ => trivial))) rfl ?_
                    obtain ⟨m1, hv28, h⟩ := bnd_some h
                    refine Chain.cons (StepOK.re hv28 (StepOK.assign .none (.tmp rfl (fun _ => trivial)))) rfl ?_
                    refine Chain.nil ?_
                    refine Ends.then ?_
                    refine Cod.seq ?_
                    refine Cod.region [] mixed (by kernel_rfl) ?_
                    refine Chain.cons (StepOK.load .none ty39 (.tmp rfl (fun _ => trivial))) rfl ?_
                    refine Chain.cons (StepOK.move .none (.tmp rfl (fun _ => trivial))) rfl ?_
                    obtain ⟨hn29, h⟩ := need_some h
                    refine Chain.cons (StepOK.indexAddr .none sl39 ty47 (.tmp rfl (fun _ => trivial)) (.tmp rfl (fun _ => trivial)) (fun _ => hn29)) rfl ?_
                    refine Chain.cons (StepOK.fieldAddr .none fd47_0 hfd47_0 (.tmp rfl (fun _ => trivial))) rfl ?_
                    refine Chain.cons (StepOK.load .none ty3 (.tmp rfl (fun _ => trivial))) rfl ?_
                    refine Chain.cons (StepOK.load .none ty39 (.tmp rfl (fun _ => trivial))) rfl ?_
                    refine Chain.cons (StepOK.move .none (.tmp rfl (fun _ => trivial))) rfl ?_
                    obtain ⟨hn30, h⟩ := need_some h
                    refine Chain.cons (StepOK.indexAddr .none sl39 ty47 (.tmp rfl (fun _ => trivial)) (.tmp rfl (fun _ => trivial)) (fun _ => hn30)) rfl ?_
                    refine Chain.cons (StepOK.fieldAddr .none fd47_0 hfd47_0 (.tmp rfl (fun _ => trivial))) rfl ?_
                    refine Chain.cons (StepOK.load .none ty3 (.tmp rfl (fun _ => trivial))) rfl ?_
                    refine Chain.cons (StepOK.load .none ty56 (.tmp rfl (fun _ => trivial))) rfl ?_
                    refine Chain.cons (StepOK.move .none (.tmp rfl (fun _ => trivial))) rfl ?_
                    obtain ⟨hn31, h⟩ := need_some h
                    refine Chain.cons (StepOK.indexAddr .none sl56 ty67 (.tmp rfl (fun _ => trivial)) (.tmp rfl (fun _ => trivial)) (fun _ => hn31)) rfl ?_
                    refine Chain.cons (StepOK.fieldAddr .none fd67_0 hfd67_0 (.tmp rfl (fun _ => trivial))) rfl ?_
                    refine Chain.cons (StepOK.load .none ty3 (.tmp rfl (fun _ => trivial))) rfl ?_
                    refine Chain.cons (StepOK.addW .none (.tmp rfl (fun _ => trivial)) (.tmp rfl (fun _ => trivial))) rfl ?_
                    refine Chain.cons (StepOK.move .none (.tmp rfl (fun _ => trivial))) rfl ?_
                    refine Chain.cons (StepOK.addW .none (.tmp rfl (fun _ => trivial)) (.tmp rfl (fun _ => trivial))) rfl ?_
                    refine Chain.cons (StepOK.lt .none (.tmp rfl (fun _ => trivial)) (.tmp rfl (fun _ => trivial))) rfl ?_
                    refine Chain.nil ?_
                    refine Ends.then ?_
                    refine Cod.cond (t := 102) rfl trivial (fun hb32 => ?_) (fun hb32 => ?_)
                    · replace h := bif_t h hb32
                      refine Cod.seq ?_
                      refine Cod.region [] mixed (by kernel_rfl) ?_
                      refine Chain.cons (StepOK.assign .none .bool) rfl ?_
                      refine Chain.nil ?_
                      refine Ends.then ?_
                      refine Cod.ret ?_
                      refine Ends.blkRet ?_
                      refine Ends.thenRet ?_
                      refine Ends.thenRet ?_
                      refine Ends.blkRet ?_
                      refine Ends.thenRet ?_
                      refine Ends.blkRet ?_
                      refine Ends.thenRet ?_
                      refine Ends.thenRet ?_
                      refine Ends.blkRet ?_
                      refine Ends.blkRet ?_
                      refine Ends.thenRet ?_
                      refine Ends.thenRet ?_
                      refine Ends.blkRet ?_
                      refine Ends.thenRet ?_
                      replace h := resd_ab hK26 (some_eq h)
                      replace h := hD24 _ (some_eq h)
                      replace h := resb_ab hK23 (some_eq h)
                      replace h := resd_ab hK16 (some_eq h)
                      replace h := hD14 _ (some_eq h)
                      replace h := resd_ab hK11 (some_eq h)
                      replace h := hD9 _ (some_eq h)
                      replace h := resb_ab hK8 (some_eq h)
                      obtain rfl := some_eq h
                      exact Ends.ret1 (.inl rfl) Try.results7 (ResOK.tmp rfl trivial Imp.refl)
                    · replace h := bif_f h hb32
                      refine Cod.skip ?_
                      refine Ends.blkNormal ?_
                      exact Ends.join _ (some_eq h) (.cons (t := 1) rfl (.cons (t := 5) rfl (.cons (t := 8) rfl (.cons (t := 9) rfl (.cons (t := 11) rfl (.cons (t := 13) rfl (.cons (t := 15) rfl (.cons (t := 17) rfl (.cons (t := 56) rfl (.cons (t := 57) rfl (.cons (t := 58) rfl (.cons (t := 62) rfl (.cons (t := 63) rfl (.cons (t := 64) rfl (.cons (t := 78) rfl (.cons (t := 79) rfl (.cons (t := 80) rfl Sub.nil))))))))))))))))) SubB.nil
                  · have h := resd_nx hK26 hj26
                    refine Cod.region [] mixed (by kernel_rfl) ?_
                    refine Chain.cons (StepOK.addW .none (.tmp rfl (fun _ => trivial)) (.int (by decide))) rfl ?_
                    refine Chain.cons (StepOK.move .none (.tmp rfl (fun _ => trivial))) rfl ?_
                    refine Chain.nil ?_
                    exact Ends.againL (some_eq h) (.cons (t := 80) rfl (.cons (t := 1) rfl (.cons (t := 5) rfl (.cons (t := 8) rfl (.cons (t := 9) rfl (.cons (t := 11) rfl (.cons (t := 13) rfl (.cons (t := 15) rfl (.cons (t := 17) rfl (.cons (t := 56) rfl (.cons (t := 57) rfl (.cons (t := 58) rfl (.cons (t := 62) rfl (.cons (t := 63) rfl (.cons (t := 64) rfl (.cons (t := 78) rfl (.cons (t := 79) rfl Sub.nil))))))))))))))))) SubB.nil
                · replace h := bif_f h hb25
                  refine Cod.exit ?_
                  refine Ends.thenExit ?_
                  refine Ends.thenExit ?_
                  refine Ends.blkExit ?_
                  replace h := hD24 _ (some_eq h)
                  exact Ends.join _ (some_eq h) (.cons (t := 1) rfl (.cons (t := 5) rfl (.cons (t := 8) rfl (.cons (t := 9) rfl (.cons (t := 11) rfl (.cons (t := 13) rfl (.cons (t := 15) rfl (.cons (t := 56) rfl (.cons (t := 57) rfl (.cons (t := 58) rfl (.cons (t := 62) rfl (.cons (t := 63) rfl (.cons (t := 64) rfl Sub.nil))))))))))))) SubB.nil
              · have h := resb_nx hK23 hj23
                refine Ends.blkNormal ?_
                exact Ends.join _ (some_eq h) (.cons (t := 13) rfl (.cons (t := 1) rfl (.cons (t := 5) rfl (.cons (t := 8) rfl (.cons (t := 9) rfl (.cons (t := 11) rfl (.cons (t := 15) rfl (.cons (t := 56) rfl (.cons (t := 57) rfl (.cons (t := 58) rfl (.cons (t := 62) rfl (.cons (t := 63) rfl (.cons (t := 64) rfl Sub.nil))))))))))))) SubB.nil
            · have h := resd_nx hK16 hj16
              refine Cod.region [] mixed (by kernel_rfl) ?_
              refine Chain.cons (StepOK.addW .none (.tmp rfl (fun _ => trivial)) (.int (by decide))) rfl ?_
              refine Chain.cons (StepOK.move .none (.tmp rfl (fun _ => trivial))) rfl ?_
              refine Chain.nil ?_
              exact Ends.againL (some_eq h) (.cons (t := 64) rfl (.cons (t := 13) rfl (.cons (t := 1) rfl (.cons (t := 5) rfl (.cons (t := 8) rfl (.cons (t := 9) rfl (.cons (t := 11) rfl (.cons (t := 15) rfl (.cons (t := 56) rfl (.cons (t := 57) rfl (.cons (t := 58) rfl (.cons (t := 62) rfl (.cons (t := 63) rfl Sub.nil))))))))))))) SubB.nil
          · replace h := bif_f h hb15
            refine Cod.exit ?_
            refine Ends.thenExit ?_
            refine Ends.thenExit ?_
            refine Ends.blkExit ?_
            refine Ends.blkNormal ?_
            replace h := hD14 _ (some_eq h)
            exact Ends.join _ (some_eq h) (.cons (t := 13) rfl (.cons (t := 1) rfl (.cons (t := 5) rfl (.cons (t := 8) rfl (.cons (t := 9) rfl (.cons (t := 11) rfl (.cons (t := 56) rfl (.cons (t := 57) rfl (.cons (t := 58) rfl Sub.nil))))))))) SubB.nil
        · have h := resd_nx hK11 hj11
          refine Cod.region [] mixed (by kernel_rfl) ?_
          refine Chain.cons (StepOK.addW .none (.tmp rfl (fun _ => trivial)) (.int (by decide))) rfl ?_
          refine Chain.cons (StepOK.move .none (.tmp rfl (fun _ => trivial))) rfl ?_
          refine Chain.nil ?_
          exact Ends.againL (some_eq h) (.cons (t := 58) rfl (.cons (t := 13) rfl (.cons (t := 1) rfl (.cons (t := 5) rfl (.cons (t := 8) rfl (.cons (t := 9) rfl (.cons (t := 11) rfl (.cons (t := 56) rfl (.cons (t := 57) rfl Sub.nil))))))))) SubB.nil
      · replace h := bif_f h hb10
        refine Cod.exit ?_
        refine Ends.thenExit ?_
        refine Ends.thenExit ?_
        refine Ends.blkExit ?_
        replace h := hD9 _ (some_eq h)
        exact Ends.join _ (some_eq h) (.cons (t := 13) rfl (.cons (t := 5) rfl (.cons (t := 8) rfl (.cons (t := 9) rfl (.cons (t := 11) rfl Sub.nil))))) SubB.nil
    · have h := resb_nx hK8 hj8
      refine Cod.seq ?_
      refine Cod.seq ?_
      refine Cod.region [] mixed (by kernel_rfl) ?_
      refine Chain.cons (StepOK.move .none (.tmp rfl (fun _ => trivial))) rfl ?_
      refine Chain.cons (StepOK.neI .none (.tmp rfl (fun _ => trivial)) (.int (by decide))) rfl ?_
      refine Chain.cons (StepOK.move .none (.tmp rfl (fun _ => trivial))) rfl ?_
      refine Chain.cons (StepOK.load (.at rfl rfl) ty3 (.tmp rfl (fun _ => trivial))) rfl ?_
      refine Chain.cons (StepOK.load (.at rfl rfl) ty56 (.tmp rfl (fun _ => trivial))) rfl ?_
      refine Chain.cons (StepOK.len (.at rfl rfl) sl56 (.tmp rfl id)) rfl ?_
      refine Chain.cons (StepOK.subW (.at rfl rfl) (.tmp rfl id) (.int (by decide))) rfl ?_
      obtain ⟨r5, hv33, h⟩ := bind_some h
      refine Chain.cons (StepOK.callIf (.at rfl rfl) fnok16 (fun hg => ref_In_ok ((fun hg => gd_some hv33 (by simp [hg.2])) hg)) (.cons (.tmp rfl id) (.cons (.int (by decide)) (.cons (.tmp rfl id) .nil))) (fun h => h)) rfl ?_
      refine Chain.cons (StepOK.not (.at rfl rfl) (.tmp rfl id)) rfl ?_
      refine Chain.cons (StepOK.pickOr .none (.tmp rfl (fun _ => trivial)) (.tmp rfl id)) rfl ?_
      refine Chain.cons (StepOK.move .none (.tmp rfl (fun _ => trivial))) rfl ?_
      refine Chain.cons (StepOK.load (.at rfl rfl) ty3 (.tmp rfl (fun _ => trivial))) rfl ?_
      refine Chain.cons (StepOK.load (.at rfl rfl) ty56 (.tmp rfl (fun _ => trivial))) rfl ?_
      refine Chain.cons (StepOK.len (.at rfl rfl) sl56 (.tmp rfl id)) rfl ?_
      refine Chain.cons (StepOK.subW (.at rfl rfl) (.tmp rfl id) (.int (by decide))) rfl ?_
      obtain ⟨r6, hv34, h⟩ := bind_some h
      refine Chain.cons (StepOK.callIf (.at rfl rfl) fnok16 (fun hg => ref_In_ok ((fun hg => gd_some hv34 (by simp [hg.2])) hg)) (.cons (.tmp rfl id) (.cons (.int (by decide)) (.cons (.tmp rfl id) .nil))) (fun h => h)) rfl ?_
      refine Chain.cons (StepOK.not (.at rfl rfl) (.tmp rfl id)) rfl ?_
      refine Chain.cons (StepOK.pickOr .none (.tmp rfl (fun _ => trivial)) (.tmp rfl id)) rfl ?_
      refine Chain.cons (StepOK.move .none (.tmp rfl (fun _ => trivial))) rfl ?_
      refine Chain.cons (StepOK.load (.at rfl rfl) ty56 (.tmp rfl (fun _ => trivial))) rfl ?_
      refine Chain.cons (StepOK.load (.at rfl rfl) ty3 (.tmp rfl (fun _ => trivial))) rfl ?_
      refine Chain.cons (StepOK.load (.at rfl rfl) ty3 (.tmp rfl (fun _ => trivial))) rfl ?_
      obtain ⟨r7, hv35, h⟩ := bind_some h
      refine Chain.cons (StepOK.callIf (.at rfl rfl) fnok35 (fun hg => ref_SameOf_ok ((fun hg => gd_some hv35 (by simp [hg.2])) hg)) (.cons (.tmp rfl id) (.cons (.tmp rfl id) (.cons (.tmp rfl id) .nil))) (fun h => h)) rfl ?_
      refine Chain.cons (StepOK.not (.at rfl rfl) (.tmp rfl id)) rfl ?_
      refine Chain.cons (StepOK.pickOr .none (.tmp rfl (fun _ => trivial)) (.tmp rfl id)) rfl ?_
      refine Chain.nil ?_
      refine Ends.then ?_
      refine Cod.cond (t := 130) rfl trivial (fun hb36 => ?_) (fun hb36 => ?_)
      · replace h := bif_t h hb36
        refine Cod.seq ?_
        refine Cod.region [] mixed (by kernel_rfl) ?_
        refine Chain.cons (StepOK.move .none (.tmp rfl (fun _ => trivial))) rfl ?_
        refine Chain.cons (StepOK.eqI .none (.tmp rfl (fun _ => trivial)) (.int (by decide))) rfl ?_
        refine Chain.cons (StepOK.assign .none (.tmp rfl (fun _ => trivial))) rfl ?_
        refine Chain.nil ?_
        refine Ends.then ?_
        refine Cod.ret ?_
        refine Ends.thenRet ?_
        obtain rfl := some_eq h
        exact Ends.ret1 (.inl rfl) Try.results7 (ResOK.tmp rfl trivial Imp.refl)
      · replace h := bif_f h hb36
        refine Cod.skip ?_
        refine Ends.then ?_
        refine Cod.seq ?_
        refine Cod.region [([], [20])] mixed (by kernel_rfl) ?_
        refine Chain.consW (StepOK.alloc zr68 rfl) rfl rfl ?_
        refine Chain.nil ?_
        refine Ends.then ?_
        refine Cod.nameAt (t := 20) (g := 5001) rfl rfl isBox_cont rfl (fun m5001 => ?_)
        refine Cod.seq ?_
        refine Cod.region [([], []), ([5001], [5001])] mixed (by kernel_rfl) ?_
        refine Chain.consA (StepOK.makeFuncC (Cs := [ref r1.1, ref a1, ref b1, ref t1, isV (ptr m5001 0)]) .none (.cons (.tmp rfl (fun _ => trivial)) (.cons (.tmp rfl (fun _ => trivial)) (.cons (.tmp rfl (fun _ => trivial)) (.cons (.tmp rfl (fun _ => trivial)) (.cons (.tmp rfl (fun _ => trivial)) .nil)))))) rfl ?_
        refine Chain.consN (StepOK.storeS (k := 5001) (S := cloV 36 [ref r1.1, ref a1, ref b1, ref t1, isV (ptr m5001 0)]) tr68 rfl cont_cells (.tmp rfl (fun _ => trivial)) (.tmp rfl (fun _ => trivial)) cloV_one) rfl ?_
        refine Chain.nil ?_
        refine Ends.then ?_
        refine Cod.seq ?_
        refine Cod.region [([5001], []), ([], []), ([], []), ([5001], [5001]), ([], [])] mixed (by kernel_rfl) ?_
        refine Chain.consA (StepOK.loadS (k := 5001) .none tr68 rfl (.tmp rfl (fun _ => trivial)) cloV_one) rfl ?_
        refine Chain.consA (StepOK.load .none ty3 (.tmp rfl (fun _ => trivial))) rfl ?_
        refine Chain.consA (StepOK.load .none ty3 (.tmp rfl (fun _ => trivial))) rfl ?_
        obtain ⟨r8, hv37, h⟩ := bind_some h
        refine Chain.consW (StepOK.callClo [5001] (Ss := [rep a1, rep b1]) (Cs := [ref r1.1, ref a1, ref b1, ref t1, isV (ptr m5001 0)]) (.tmp rfl (fun _ => trivial)) (law_TidiesAreTidy_1_ok hv37) (.cons (.tmp rfl (fun _ => trivial)) (.cons (.tmp rfl (fun _ => trivial)) .nil)) (.cons (k := 5001) rfl .nil) rfl (by decide) (by decide) (by intro d h; cases h; decide)) rfl rfl ?_
        refine Chain.consA (StepOK.assign .none (.tmp rfl (fun _ => trivial))) rfl ?_
        refine Chain.nil ?_
        refine Ends.then ?_
        refine Cod.ret ?_
        obtain rfl := some_eq h
        exact Ends.ret1 (.inl rfl) Try.results7 (ResOK.tmp rfl trivial Imp.refl)


end Go.Proofs.Ytakkmmhjohadaaa
