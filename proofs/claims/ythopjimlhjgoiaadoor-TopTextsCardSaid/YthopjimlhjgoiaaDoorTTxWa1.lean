/-
  The walks: what a function computes is what its plain function says (printed by a program of one's own).
-/
import Derived.Test.YthopjimlhjgoiaaDoorTTxFa
set_option maxRecDepth 100000
set_option linter.unusedSimpArgs false
set_option linter.unusedVariables false
namespace Go.Proofs.YthopjimlhjgoiaaDoor
open Go Go.DB Go.RowKit

theorem strings_IndexByte_ok {s : Str} {c : KI .u8} {r : Int} (h : strings_IndexByte s c = some r) : FSpec Tryd.prog 93 [rep s, rep c] (rep r) := by
  obtain ⟨hn, h⟩ := need_some h
  obtain rfl := some_eq h
  exact indexByteS_spec indexByteStr_lay rfl fnok93 hn

theorem utf8_RuneCountInString_ok {s : Str} {r : Int} (h : utf8_RuneCountInString s = some r) : FSpec Tryd.prog 80 [rep s] (rep r) := by
  obtain ⟨hn, h⟩ := need_some h
  obtain rfl := some_eq h
  exact runesS_spec runesStr_lay rfl fnok80 hn

theorem strings_Split_ok {s sep : Str} {r : List Str} (h : strings_Split s sep = some r) : FSpecO Tryd.prog 49 [rep s, rep sep] [] (anyV) [some (rowV 9 r)] := by
  obtain ⟨hn, h⟩ := need_some h
  obtain rfl := some_eq h
  exact splitS_spec splitStr_lay (by kernel_rfl) rfl rfl rfl fnok49 hn.1 hn.2

theorem utf8_ValidString_ok {s : Str} {r : Bool} (h : utf8_ValidString s = some r) : FSpec Tryd.prog 42 [rep s] (rep r) := by
  obtain rfl := some_eq h
  exact validS_spec validStr_lay rfl rfl rfl fnok42

theorem strings_Count_ok {s sep : Str} {r : Int} (h : strings_Count s sep = some r) : FSpec Tryd.prog 54 [rep s, rep sep] (rep r) := by
  obtain ⟨hn, h⟩ := need_some h
  obtain rfl := some_eq h
  exact countByteS_spec countStr_lay rfl fnok54 hn

theorem shape_isKind_ok {kind1 : Int} {r : Bool}  (h : shape_isKind kind1 = some r) : FSpec Tryd.prog 51 [rep kind1] (rep r) := by
  unfold shape_isKind at h
  refine FSpec.intro (n := 9) fnok51 Tryd.func51 rfl Tryd.ntmps51 rfl (fun F => ?_)
  refine Cod.seq ?_
  refine Cod.region [] mixed (by kernel_rfl) ?_
  refine Chain.cons (StepOK.assign .none .bool) rfl ?_
  refine Chain.nil ?_
  refine Ends.then ?_
  refine Cod.seq ?_
  refine Cod.region [] mixed (by kernel_rfl) ?_
  refine Chain.cons (StepOK.move .none (.tmp rfl (fun _ => trivial))) rfl ?_
  refine Chain.cons (StepOK.ge .none (.tmp rfl (fun _ => trivial)) (.int (by decide))) rfl ?_
  refine Chain.cons (StepOK.move .none (.tmp rfl (fun _ => trivial))) rfl ?_
  refine Chain.cons (StepOK.move (.at rfl rfl) (.tmp rfl (fun _ => trivial))) rfl ?_
  refine Chain.cons (StepOK.le (.at rfl rfl) (.tmp rfl id) (.int (by decide))) rfl ?_
  refine Chain.cons (StepOK.pickAnd .none (.tmp rfl (fun _ => trivial)) (.tmp rfl id)) rfl ?_
  refine Chain.cons (StepOK.assign .none (.tmp rfl (fun _ => trivial))) rfl ?_
  refine Chain.nil ?_
  refine Ends.then ?_
  refine Cod.ret ?_
  obtain rfl := some_eq h
  exact Ends.ret1 (.inl rfl) Tryd.results51 (ResOK.tmp rfl trivial Imp.refl)

theorem shape_CheckFont_ok {f1 : Font} {r : Int}  (h : shape_CheckFont f1 = some r) : FSpec Tryd.prog 14 [rep f1] (rep r) := by
  unfold shape_CheckFont at h
  refine FSpec.intro (n := 38) fnok14 Tryd.func14 rfl Tryd.ntmps14 rfl (fun F => ?_)
  refine Cod.seq ?_
  refine Cod.region [] mixed (by kernel_rfl) ?_
  refine Chain.cons (StepOK.box .none (.tmp rfl (fun _ => trivial))) rfl ?_
  refine Chain.cons (StepOK.assign .none (.int (by decide))) rfl ?_
  refine Chain.nil ?_
  refine Ends.then ?_
  refine Cod.seq ?_
  refine Cod.seq ?_
  refine Cod.region [] mixed (by kernel_rfl) ?_
  refine Chain.cons (StepOK.fieldAddr .none fd23_0 hfd23_0 (.tmp rfl (fun _ => trivial))) rfl ?_
  refine Chain.cons (StepOK.load .none ty3 (.tmp rfl (fun _ => trivial))) rfl ?_
  refine Chain.cons (StepOK.fieldAddr .none fd23_1 hfd23_1 (.tmp rfl (fun _ => trivial))) rfl ?_
  refine Chain.cons (StepOK.load .none ty3 (.tmp rfl (fun _ => trivial))) rfl ?_
  refine Chain.cons (StepOK.fieldAddr .none fd23_2 hfd23_2 (.tmp rfl (fun _ => trivial))) rfl ?_
  refine Chain.cons (StepOK.load .none ty3 (.tmp rfl (fun _ => trivial))) rfl ?_
  refine Chain.cons (StepOK.fieldAddr .none fd23_3 hfd23_3 (.tmp rfl (fun _ => trivial))) rfl ?_
  refine Chain.cons (StepOK.load .none ty3 (.tmp rfl (fun _ => trivial))) rfl ?_
  obtain ⟨v1, hv1, h⟩ := bnd_some h
  refine Chain.cons (StepOK.re hv1 (StepOK.buildSlice (xs := [_, _, _, _]) .none sl75 ty3 hz3 (.cons (.tmp rfl (fun _ => trivial)) (.cons (.tmp rfl (fun _ => trivial)) (.cons (.tmp rfl (fun _ => trivial)) (.cons (.tmp rfl (fun _ => trivial)) .nil)))) rfl (by decide))) rfl ?_
  refine Chain.cons (StepOK.len .none sl75 (.tmp rfl (fun _ => trivial))) rfl ?_
  refine Chain.cons (StepOK.move .none (.int (by decide))) rfl ?_
  refine Chain.nil ?_
  refine Ends.then ?_
  obtain ⟨o_2, h, hK2⟩ := bindR_some h
  refine Cod.thenJ (ι := Unit) (fun j_2 => []) (fun j_2 => []) (fun s => o_2 = Res.nx s) (.cons (t := 1) rfl Sub.nil) SubB.nil ?_ (fun j_2 hj2 => ?_)
  · skip
    refine Cod.block ?_
    refine Cod.rforEL h (fun p3_ => [(15, ⟨True, rep p3_.1⟩)]) (fun p3_ => []) (.cons (t := 15) rfl Sub.nil) SubB.nil (.cons (t := 1) rfl (.cons (t := 13) rfl (.cons (t := 14) rfl Sub.nil))) SubB.nil (fun p3_ o_3 h hD3 => ?_)
    refine Cod.seq ?_
    refine Cod.region [] mixed (by kernel_rfl) ?_
    refine Chain.cons (StepOK.lt .none (.tmp rfl (fun _ => trivial)) (.tmp rfl (fun _ => trivial))) rfl ?_
    refine Chain.nil ?_
    refine Ends.then ?_
    refine Cod.seq ?_
    refine Cod.cond (t := 16) rfl trivial (fun hb4 => ?_) (fun hb4 => ?_)
    · replace h := bif_t h hb4
      refine Cod.skip ?_
      refine Ends.then ?_
      refine Cod.seq ?_
      obtain ⟨o_5, h, hK5⟩ := bindD_some h
      unfold shape_CheckFont_L1 at h
      refine Cod.thenJ (ι := Unit) (fun j_5 => []) (fun j_5 => []) (fun s => o_5 = Res.nx s) (.cons (t := 1) rfl (.cons (t := 13) rfl (.cons (t := 14) rfl (.cons (t := 15) rfl Sub.nil)))) SubB.nil ?_ (fun j_5 hj5 => ?_)
      · skip
        refine Cod.block ?_
        refine Cod.seq ?_
        refine Cod.region [] mixed (by kernel_rfl) ?_
        obtain ⟨hn6, h⟩ := need_some h
        refine Chain.cons (StepOK.indexAddr .none sl75 ty3 (.tmp rfl (fun _ => trivial)) (.tmp rfl (fun _ => trivial)) (fun _ => hn6)) rfl ?_
        refine Chain.cons (StepOK.load .none ty3 (.tmp rfl (fun _ => trivial))) rfl ?_
        obtain ⟨n1, hv7, h⟩ := bnd_some h
        refine Chain.cons (StepOK.re hv7 (StepOK.assign .none (.tmp rfl (fun _ => trivial)))) rfl ?_
        refine Chain.nil ?_
        refine Ends.then ?_
        refine Cod.seq ?_
        refine Cod.region [] mixed (by kernel_rfl) ?_
        refine Chain.cons (StepOK.move .none (.tmp rfl (fun _ => trivial))) rfl ?_
        refine Chain.cons (StepOK.lt .none (.tmp rfl (fun _ => trivial)) (.int (by decide))) rfl ?_
        refine Chain.cons (StepOK.move .none (.tmp rfl (fun _ => trivial))) rfl ?_
        refine Chain.cons (StepOK.move (.at rfl rfl) (.tmp rfl (fun _ => trivial))) rfl ?_
        refine Chain.cons (StepOK.gt (.at rfl rfl) (.tmp rfl id) (.int (by decide))) rfl ?_
        refine Chain.cons (StepOK.pickOr .none (.tmp rfl (fun _ => trivial)) (.tmp rfl id)) rfl ?_
        refine Chain.nil ?_
        refine Ends.then ?_
        refine Cod.cond (t := 24) rfl trivial (fun hb8 => ?_) (fun hb8 => ?_)
        · replace h := bif_t h hb8
          refine Cod.seq ?_
          refine Cod.region [] mixed (by kernel_rfl) ?_
          refine Chain.cons (StepOK.assign .none (.int (by decide))) rfl ?_
          refine Chain.nil ?_
          refine Ends.then ?_
          refine Cod.ret ?_
          refine Ends.blkRet ?_
          refine Ends.thenRet ?_
          refine Ends.thenRet ?_
          refine Ends.blkRet ?_
          refine Ends.thenRet ?_
          replace h := resd_ab hK5 (some_eq h)
          replace h := hD3 _ (some_eq h)
          replace h := resb_ab hK2 (some_eq h)
          obtain rfl := some_eq h
          exact Ends.ret1 (.inl rfl) Tryd.results14 (ResOK.tmp rfl trivial Imp.refl)
        · replace h := bif_f h hb8
          refine Cod.skip ?_
          refine Ends.blkNormal ?_
          exact Ends.join _ (some_eq h) (.cons (t := 1) rfl (.cons (t := 13) rfl (.cons (t := 14) rfl (.cons (t := 15) rfl Sub.nil)))) SubB.nil
      · have h := resd_nx hK5 hj5
        refine Cod.region [] mixed (by kernel_rfl) ?_
        refine Chain.cons (StepOK.addW .none (.tmp rfl (fun _ => trivial)) (.int (by decide))) rfl ?_
        refine Chain.cons (StepOK.move .none (.tmp rfl (fun _ => trivial))) rfl ?_
        refine Chain.nil ?_
        exact Ends.againL (some_eq h) (.cons (t := 15) rfl (.cons (t := 1) rfl (.cons (t := 13) rfl (.cons (t := 14) rfl Sub.nil)))) SubB.nil
    · replace h := bif_f h hb4
      refine Cod.exit ?_
      refine Ends.thenExit ?_
      refine Ends.thenExit ?_
      refine Ends.blkExit ?_
      replace h := hD3 _ (some_eq h)
      exact Ends.join _ (some_eq h) (.cons (t := 1) rfl Sub.nil) SubB.nil
  · have h := resb_nx hK2 hj2
    refine Cod.seq ?_
    refine Cod.seq ?_
    refine Cod.region [] mixed (by kernel_rfl) ?_
    refine Chain.cons (StepOK.fieldAddr .none fd23_1 hfd23_1 (.tmp rfl (fun _ => trivial))) rfl ?_
    refine Chain.cons (StepOK.load .none ty3 (.tmp rfl (fun _ => trivial))) rfl ?_
    refine Chain.cons (StepOK.fieldAddr .none fd23_2 hfd23_2 (.tmp rfl (fun _ => trivial))) rfl ?_
    refine Chain.cons (StepOK.load .none ty3 (.tmp rfl (fun _ => trivial))) rfl ?_
    refine Chain.cons (StepOK.gt .none (.tmp rfl (fun _ => trivial)) (.tmp rfl (fun _ => trivial))) rfl ?_
    refine Chain.cons (StepOK.move .none (.tmp rfl (fun _ => trivial))) rfl ?_
    refine Chain.cons (StepOK.fieldAddr (.at rfl rfl) fd23_2 hfd23_2 (.tmp rfl (fun _ => trivial))) rfl ?_
    refine Chain.cons (StepOK.load (.at rfl rfl) ty3 (.tmp rfl id)) rfl ?_
    refine Chain.cons (StepOK.fieldAddr (.at rfl rfl) fd23_3 hfd23_3 (.tmp rfl (fun _ => trivial))) rfl ?_
    refine Chain.cons (StepOK.load (.at rfl rfl) ty3 (.tmp rfl id)) rfl ?_
    refine Chain.cons (StepOK.gt (.at rfl rfl) (.tmp rfl id) (.tmp rfl id)) rfl ?_
    refine Chain.cons (StepOK.pickOr .none (.tmp rfl (fun _ => trivial)) (.tmp rfl id)) rfl ?_
    refine Chain.nil ?_
    refine Ends.then ?_
    refine Cod.cond (t := 37) rfl trivial (fun hb9 => ?_) (fun hb9 => ?_)
    · replace h := bif_t h hb9
      refine Cod.seq ?_
      refine Cod.region [] mixed (by kernel_rfl) ?_
      refine Chain.cons (StepOK.assign .none (.int (by decide))) rfl ?_
      refine Chain.nil ?_
      refine Ends.then ?_
      refine Cod.ret ?_
      refine Ends.thenRet ?_
      obtain rfl := some_eq h
      exact Ends.ret1 (.inl rfl) Tryd.results14 (ResOK.tmp rfl trivial Imp.refl)
    · replace h := bif_f h hb9
      refine Cod.skip ?_
      refine Ends.then ?_
      refine Cod.seq ?_
      refine Cod.region [] mixed (by kernel_rfl) ?_
      refine Chain.cons (StepOK.assign .none (.int (by decide))) rfl ?_
      refine Chain.nil ?_
      refine Ends.then ?_
      refine Cod.ret ?_
      obtain rfl := some_eq h
      exact Ends.ret1 (.inl rfl) Tryd.results14 (ResOK.tmp rfl trivial Imp.refl)

theorem shape_CheckText_ok {s1 : Str} {r : Int}  (h : shape_CheckText s1 = some r) : FSpec Tryd.prog 15 [rep s1] (rep r) := by
  unfold shape_CheckText at h
  refine FSpec.intro (n := 32) fnok15 Tryd.func15 rfl Tryd.ntmps15 rfl (fun F => ?_)
  refine Cod.seq ?_
  refine Cod.region [] mixed (by kernel_rfl) ?_
  refine Chain.cons (StepOK.assign .none (.int (by decide))) rfl ?_
  refine Chain.nil ?_
  refine Ends.then ?_
  refine Cod.seq ?_
  refine Cod.seq ?_
  refine Cod.region [] mixed (by kernel_rfl) ?_
  refine Chain.cons (StepOK.move .none (.tmp rfl (fun _ => trivial))) rfl ?_
  refine Chain.cons (StepOK.lenStr .none Tryd.underlying9 (.tmp rfl (fun _ => trivial))) rfl ?_
  refine Chain.cons (StepOK.gt .none (.tmp rfl (fun _ => trivial)) (.int (by decide))) rfl ?_
  refine Chain.nil ?_
  refine Ends.then ?_
  refine Cod.cond (t := 6) rfl trivial (fun hb1 => ?_) (fun hb1 => ?_)
  · replace h := bif_t h hb1
    refine Cod.seq ?_
    refine Cod.region [] mixed (by kernel_rfl) ?_
    refine Chain.cons (StepOK.assign .none (.int (by decide))) rfl ?_
    refine Chain.nil ?_
    refine Ends.then ?_
    refine Cod.ret ?_
    refine Ends.thenRet ?_
    obtain rfl := some_eq h
    exact Ends.ret1 (.inl rfl) Tryd.results15 (ResOK.tmp rfl trivial Imp.refl)
  · replace h := bif_f h hb1
    refine Cod.skip ?_
    refine Ends.then ?_
    refine Cod.seq ?_
    refine Cod.seq ?_
    refine Cod.region [] mixed (by kernel_rfl) ?_
    refine Chain.cons (StepOK.move .none (.tmp rfl (fun _ => trivial))) rfl ?_
    obtain ⟨r1, hv2, h⟩ := bind_some h
    refine Chain.cons (StepOK.call .none (utf8_ValidString_ok hv2) (.cons (.tmp rfl (fun _ => trivial)) .nil)) rfl ?_
    refine Chain.cons (StepOK.not .none (.tmp rfl (fun _ => trivial))) rfl ?_
    refine Chain.nil ?_
    refine Ends.then ?_
    refine Cod.cond (t := 9) rfl trivial (fun hb3 => ?_) (fun hb3 => ?_)
    · replace h := bif_t h hb3
      refine Cod.seq ?_
      refine Cod.region [] mixed (by kernel_rfl) ?_
      refine Chain.cons (StepOK.assign .none (.int (by decide))) rfl ?_
      refine Chain.nil ?_
      refine Ends.then ?_
      refine Cod.ret ?_
      refine Ends.thenRet ?_
      obtain rfl := some_eq h
      exact Ends.ret1 (.inl rfl) Tryd.results15 (ResOK.tmp rfl trivial Imp.refl)
    · replace h := bif_f h hb3
      refine Cod.skip ?_
      refine Ends.then ?_
      refine Cod.seq ?_
      refine Cod.seq ?_
      refine Cod.region [] mixed (by kernel_rfl) ?_
      refine Chain.cons (StepOK.move .none (.tmp rfl (fun _ => trivial))) rfl ?_
      refine Chain.cons (StepOK.lenStr .none Tryd.underlying9 (.tmp rfl (fun _ => trivial))) rfl ?_
      refine Chain.cons (StepOK.move .none (.int (by decide))) rfl ?_
      refine Chain.nil ?_
      refine Ends.then ?_
      obtain ⟨o_4, h, hK4⟩ := bindR_some h
      refine Cod.thenJ (ι := Unit) (fun j_4 => []) (fun j_4 => []) (fun s => o_4 = Res.nx s) Sub.nil SubB.nil ?_ (fun j_4 hj4 => ?_)
      · skip
        refine Cod.block ?_
        refine Cod.rforEL h (fun p5_ => [(12, ⟨True, rep p5_.1⟩)]) (fun p5_ => []) (.cons (t := 12) rfl Sub.nil) SubB.nil (.cons (t := 0) rfl (.cons (t := 11) rfl Sub.nil)) SubB.nil (fun p5_ o_5 h hD5 => ?_)
        refine Cod.seq ?_
        refine Cod.region [] mixed (by kernel_rfl) ?_
        refine Chain.cons (StepOK.lt .none (.tmp rfl (fun _ => trivial)) (.tmp rfl (fun _ => trivial))) rfl ?_
        refine Chain.nil ?_
        refine Ends.then ?_
        refine Cod.seq ?_
        refine Cod.cond (t := 13) rfl trivial (fun hb6 => ?_) (fun hb6 => ?_)
        · replace h := bif_t h hb6
          refine Cod.skip ?_
          refine Ends.then ?_
          refine Cod.seq ?_
          obtain ⟨o_7, h, hK7⟩ := bindD_some h
          unfold shape_CheckText_L1 at h
          refine Cod.thenJ (ι := Unit) (fun j_7 => []) (fun j_7 => []) (fun s => o_7 = Res.nx s) (.cons (t := 0) rfl (.cons (t := 11) rfl (.cons (t := 12) rfl Sub.nil))) SubB.nil ?_ (fun j_7 hj7 => ?_)
          · skip
            refine Cod.block ?_
            refine Cod.seq ?_
            refine Cod.region [] mixed (by kernel_rfl) ?_
            refine Chain.cons (StepOK.move .none (.tmp rfl (fun _ => trivial))) rfl ?_
            refine Chain.cons (StepOK.assign .none (.tmp rfl (fun _ => trivial))) rfl ?_
            refine Chain.nil ?_
            refine Ends.then ?_
            refine Cod.seq ?_
            refine Cod.region [] mixed (by kernel_rfl) ?_
            refine Chain.cons (StepOK.move .none (.tmp rfl (fun _ => trivial))) rfl ?_
            refine Chain.cons (StepOK.move .none (.tmp rfl (fun _ => trivial))) rfl ?_
            obtain ⟨hn8, h⟩ := need_some h
            refine Chain.cons (StepOK.indexStr .none Tryd.underlying9 (.tmp rfl (fun _ => trivial)) (.tmp rfl (fun _ => trivial)) (fun _ => hn8)) rfl ?_
            refine Chain.cons (StepOK.klss .none (.tmp rfl (fun _ => trivial)) .ki) rfl ?_
            refine Chain.cons (StepOK.move .none (.tmp rfl (fun _ => trivial))) rfl ?_
            refine Chain.cons (StepOK.move (.at rfl rfl) (.tmp rfl (fun _ => trivial))) rfl ?_
            refine Chain.cons (StepOK.move (.at rfl rfl) (.tmp rfl (fun _ => trivial))) rfl ?_
            obtain ⟨hn9, h⟩ := need_some h
            refine Chain.cons (StepOK.indexStr (.at rfl rfl) Tryd.underlying9 (.tmp rfl id) (.tmp rfl id) (fun hg => hn9 hg.2)) rfl ?_
            refine Chain.cons (StepOK.kneq (.at rfl rfl) (.tmp rfl id) .ki) rfl ?_
            refine Chain.cons (StepOK.pickAnd .none (.tmp rfl (fun _ => trivial)) (.tmp rfl id)) rfl ?_
            refine Chain.cons (StepOK.move .none (.tmp rfl (fun _ => trivial))) rfl ?_
            refine Chain.cons (StepOK.move (.at rfl rfl) (.tmp rfl (fun _ => trivial))) rfl ?_
            refine Chain.cons (StepOK.move (.at rfl rfl) (.tmp rfl (fun _ => trivial))) rfl ?_
            obtain ⟨hn10, h⟩ := need_some h
            refine Chain.cons (StepOK.indexStr (.at rfl rfl) Tryd.underlying9 (.tmp rfl id) (.tmp rfl id) (fun hg => hn10 hg.2)) rfl ?_
            refine Chain.cons (StepOK.keql (.at rfl rfl) (.tmp rfl id) .ki) rfl ?_
            refine Chain.cons (StepOK.pickOr .none (.tmp rfl (fun _ => trivial)) (.tmp rfl id)) rfl ?_
            refine Chain.nil ?_
            refine Ends.then ?_
            refine Cod.cond (t := 30) rfl trivial (fun hb11 => ?_) (fun hb11 => ?_)
            · replace h := bif_t h hb11
              refine Cod.seq ?_
              refine Cod.region [] mixed (by kernel_rfl) ?_
              refine Chain.cons (StepOK.assign .none (.int (by decide))) rfl ?_
              refine Chain.nil ?_
              refine Ends.then ?_
              refine Cod.ret ?_
              refine Ends.blkRet ?_
              refine Ends.thenRet ?_
              refine Ends.thenRet ?_
              refine Ends.blkRet ?_
              refine Ends.thenRet ?_
              replace h := resd_ab hK7 (some_eq h)
              replace h := hD5 _ (some_eq h)
              replace h := resb_ab hK4 (some_eq h)
              obtain rfl := some_eq h
              exact Ends.ret1 (.inl rfl) Tryd.results15 (ResOK.tmp rfl trivial Imp.refl)
            · replace h := bif_f h hb11
              refine Cod.skip ?_
              refine Ends.blkNormal ?_
              exact Ends.join _ (some_eq h) (.cons (t := 0) rfl (.cons (t := 11) rfl (.cons (t := 12) rfl Sub.nil))) SubB.nil
          · have h := resd_nx hK7 hj7
            refine Cod.region [] mixed (by kernel_rfl) ?_
            refine Chain.cons (StepOK.addW .none (.tmp rfl (fun _ => trivial)) (.int (by decide))) rfl ?_
            refine Chain.cons (StepOK.move .none (.tmp rfl (fun _ => trivial))) rfl ?_
            refine Chain.nil ?_
            exact Ends.againL (some_eq h) (.cons (t := 12) rfl (.cons (t := 0) rfl (.cons (t := 11) rfl Sub.nil))) SubB.nil
        · replace h := bif_f h hb6
          refine Cod.exit ?_
          refine Ends.thenExit ?_
          refine Ends.thenExit ?_
          refine Ends.blkExit ?_
          replace h := hD5 _ (some_eq h)
          exact Ends.join _ (some_eq h) Sub.nil SubB.nil
      · have h := resb_nx hK4 hj4
        refine Cod.seq ?_
        refine Cod.region [] mixed (by kernel_rfl) ?_
        refine Chain.cons (StepOK.assign .none (.int (by decide))) rfl ?_
        refine Chain.nil ?_
        refine Ends.then ?_
        refine Cod.ret ?_
        obtain rfl := some_eq h
        exact Ends.ret1 (.inl rfl) Tryd.results15 (ResOK.tmp rfl trivial Imp.refl)

theorem shape_checkBoth_ok {f1 : Font} {s1 : Str} {r : Int}  (h : shape_checkBoth f1 s1 = some r) : FSpec Tryd.prog 43 [rep f1, rep s1] (rep r) := by
  unfold shape_checkBoth at h
  refine FSpec.intro (n := 13) fnok43 Tryd.func43 rfl Tryd.ntmps43 rfl (fun F => ?_)
  refine Cod.seq ?_
  refine Cod.region [] mixed (by kernel_rfl) ?_
  refine Chain.cons (StepOK.box .none (.tmp rfl (fun _ => trivial))) rfl ?_
  refine Chain.cons (StepOK.assign .none (.int (by decide))) rfl ?_
  refine Chain.nil ?_
  refine Ends.then ?_
  refine Cod.seq ?_
  refine Cod.seq ?_
  refine Cod.region [] mixed (by kernel_rfl) ?_
  refine Chain.cons (StepOK.load .none ty23 (.tmp rfl (fun _ => trivial))) rfl ?_
  obtain ⟨e1, hv1, h⟩ := bind_some h
  refine Chain.cons (StepOK.call .none (shape_CheckFont_ok hv1) (.cons (.tmp rfl (fun _ => trivial)) .nil)) rfl ?_
  refine Chain.cons (StepOK.assign .none (.tmp rfl (fun _ => trivial))) rfl ?_
  refine Chain.nil ?_
  refine Ends.then ?_
  refine Cod.seq ?_
  refine Cod.region [] mixed (by kernel_rfl) ?_
  refine Chain.cons (StepOK.move .none (.tmp rfl (fun _ => trivial))) rfl ?_
  refine Chain.cons (StepOK.neI .none (.tmp rfl (fun _ => trivial)) (.int (by decide))) rfl ?_
  refine Chain.nil ?_
  refine Ends.then ?_
  refine Cod.cond (t := 9) rfl trivial (fun hb2 => ?_) (fun hb2 => ?_)
  · replace h := bif_t h hb2
    refine Cod.seq ?_
    refine Cod.region [] mixed (by kernel_rfl) ?_
    refine Chain.cons (StepOK.move .none (.tmp rfl (fun _ => trivial))) rfl ?_
    refine Chain.cons (StepOK.assign .none (.tmp rfl (fun _ => trivial))) rfl ?_
    refine Chain.nil ?_
    refine Ends.then ?_
    refine Cod.ret ?_
    refine Ends.thenRet ?_
    obtain rfl := some_eq h
    exact Ends.ret1 (.inl rfl) Tryd.results43 (ResOK.tmp rfl trivial Imp.refl)
  · replace h := bif_f h hb2
    refine Cod.skip ?_
    refine Ends.then ?_
    refine Cod.seq ?_
    refine Cod.region [] mixed (by kernel_rfl) ?_
    refine Chain.cons (StepOK.move .none (.tmp rfl (fun _ => trivial))) rfl ?_
    obtain ⟨r1, hv3, h⟩ := bind_some h
    refine Chain.cons (StepOK.call .none (shape_CheckText_ok hv3) (.cons (.tmp rfl (fun _ => trivial)) .nil)) rfl ?_
    refine Chain.cons (StepOK.assign .none (.tmp rfl (fun _ => trivial))) rfl ?_
    refine Chain.nil ?_
    refine Ends.then ?_
    refine Cod.ret ?_
    obtain rfl := some_eq h
    exact Ends.ret1 (.inl rfl) Tryd.results43 (ResOK.tmp rfl trivial Imp.refl)

theorem slices_IndexFunc_string_ok {s1 : (List Str)} {f1 : (Str → Option Bool)} {r : Int}  (h : slices_IndexFunc_string s1 f1 = some r) : FSpec Tryd.prog 96 [rep s1, fn1 Tryd.prog (rep (α := Bool)) f1] (rep r) := by
  unfold slices_IndexFunc_string at h
  refine FSpec.intro (n := 19) fnok96 Tryd.func96 rfl Tryd.ntmps96 rfl (fun F => ?_)
  refine Cod.seq ?_
  refine Cod.region [] mixed (by kernel_rfl) ?_
  refine Chain.cons (StepOK.assign .none (.int (by decide))) rfl ?_
  refine Chain.nil ?_
  refine Ends.then ?_
  refine Cod.seq ?_
  refine Cod.seq ?_
  refine Cod.region [] mixed (by kernel_rfl) ?_
  refine Chain.cons (StepOK.move .none (.tmp rfl (fun _ => trivial))) rfl ?_
  refine Chain.cons (StepOK.len .none sl30 (.tmp rfl (fun _ => trivial))) rfl ?_
  refine Chain.cons (StepOK.move .none (.int (by decide))) rfl ?_
  refine Chain.nil ?_
  refine Ends.then ?_
  obtain ⟨o_1, h, hK1⟩ := bindR_some h
  refine Cod.thenJ (ι := Unit) (fun j_1 => []) (fun j_1 => []) (fun s => o_1 = Res.nx s) Sub.nil SubB.nil ?_ (fun j_1 hj1 => ?_)
  · skip
    refine Cod.block ?_
    refine Cod.rforEL h (fun p2_ => [(8, ⟨True, rep p2_.1⟩)]) (fun p2_ => []) (.cons (t := 8) rfl Sub.nil) SubB.nil (.cons (t := 0) rfl (.cons (t := 1) rfl (.cons (t := 7) rfl Sub.nil))) SubB.nil (fun p2_ o_2 h hD2 => ?_)
    refine Cod.seq ?_
    refine Cod.region [] mixed (by kernel_rfl) ?_
    refine Chain.cons (StepOK.lt .none (.tmp rfl (fun _ => trivial)) (.tmp rfl (fun _ => trivial))) rfl ?_
    refine Chain.nil ?_
    refine Ends.then ?_
    refine Cod.seq ?_
    refine Cod.cond (t := 9) rfl trivial (fun hb3 => ?_) (fun hb3 => ?_)
    · replace h := bif_t h hb3
      refine Cod.skip ?_
      refine Ends.then ?_
      refine Cod.seq ?_
      obtain ⟨o_4, h, hK4⟩ := bindD_some h
      unfold slices_IndexFunc_string_L1 at h
      refine Cod.thenJ (ι := Unit) (fun j_4 => []) (fun j_4 => []) (fun s => o_4 = Res.nx s) (.cons (t := 0) rfl (.cons (t := 1) rfl (.cons (t := 7) rfl (.cons (t := 8) rfl Sub.nil)))) SubB.nil ?_ (fun j_4 hj4 => ?_)
      · skip
        refine Cod.block ?_
        refine Cod.seq ?_
        refine Cod.region [] mixed (by kernel_rfl) ?_
        refine Chain.cons (StepOK.move .none (.tmp rfl (fun _ => trivial))) rfl ?_
        refine Chain.cons (StepOK.assign .none (.tmp rfl (fun _ => trivial))) rfl ?_
        refine Chain.nil ?_
        refine Ends.then ?_
        refine Cod.seq ?_
        refine Cod.region [] mixed (by kernel_rfl) ?_
        refine Chain.cons (StepOK.move .none (.tmp rfl (fun _ => trivial))) rfl ?_
        refine Chain.cons (StepOK.move .none (.tmp rfl (fun _ => trivial))) rfl ?_
        refine Chain.cons (StepOK.move .none (.tmp rfl (fun _ => trivial))) rfl ?_
        obtain ⟨hn5, h⟩ := need_some h
        refine Chain.cons (StepOK.indexAddr .none sl30 ty9 (.tmp rfl (fun _ => trivial)) (.tmp rfl (fun _ => trivial)) (fun _ => hn5)) rfl ?_
        refine Chain.cons (StepOK.load .none ty9 (.tmp rfl (fun _ => trivial))) rfl ?_
        obtain ⟨r1, hv6, h⟩ := bind_some h
        refine Chain.cons (StepOK.callV (gx s1 p2_.1, r1) .none (.tmp rfl (fun _ => trivial)) (fun _ => hv6) (.cons (.tmp rfl (fun _ => trivial)) .nil)) rfl ?_
        refine Chain.nil ?_
        refine Ends.then ?_
        refine Cod.cond (t := 16) rfl trivial (fun hb7 => ?_) (fun hb7 => ?_)
        · replace h := bif_t h hb7
          refine Cod.seq ?_
          refine Cod.region [] mixed (by kernel_rfl) ?_
          refine Chain.cons (StepOK.move .none (.tmp rfl (fun _ => trivial))) rfl ?_
          refine Chain.cons (StepOK.assign .none (.tmp rfl (fun _ => trivial))) rfl ?_
          refine Chain.nil ?_
          refine Ends.then ?_
          refine Cod.ret ?_
          refine Ends.blkRet ?_
          refine Ends.thenRet ?_
          refine Ends.thenRet ?_
          refine Ends.blkRet ?_
          refine Ends.thenRet ?_
          replace h := resd_ab hK4 (some_eq h)
          replace h := hD2 _ (some_eq h)
          replace h := resb_ab hK1 (some_eq h)
          obtain rfl := some_eq h
          exact Ends.ret1 (.inl rfl) Tryd.results96 (ResOK.tmp rfl trivial Imp.refl)
        · replace h := bif_f h hb7
          refine Cod.skip ?_
          refine Ends.blkNormal ?_
          exact Ends.join _ (some_eq h) (.cons (t := 0) rfl (.cons (t := 1) rfl (.cons (t := 7) rfl (.cons (t := 8) rfl Sub.nil)))) SubB.nil
      · have h := resd_nx hK4 hj4
        refine Cod.region [] mixed (by kernel_rfl) ?_
        refine Chain.cons (StepOK.addW .none (.tmp rfl (fun _ => trivial)) (.int (by decide))) rfl ?_
        refine Chain.cons (StepOK.move .none (.tmp rfl (fun _ => trivial))) rfl ?_
        refine Chain.nil ?_
        exact Ends.againL (some_eq h) (.cons (t := 8) rfl (.cons (t := 0) rfl (.cons (t := 1) rfl (.cons (t := 7) rfl Sub.nil)))) SubB.nil
    · replace h := bif_f h hb3
      refine Cod.exit ?_
      refine Ends.thenExit ?_
      refine Ends.thenExit ?_
      refine Ends.blkExit ?_
      replace h := hD2 _ (some_eq h)
      exact Ends.join _ (some_eq h) Sub.nil SubB.nil
  · have h := resb_nx hK1 hj1
    refine Cod.seq ?_
    refine Cod.region [] mixed (by kernel_rfl) ?_
    refine Chain.cons (StepOK.assign .none (.int (by decide))) rfl ?_
    refine Chain.nil ?_
    refine Ends.then ?_
    refine Cod.ret ?_
    obtain rfl := some_eq h
    exact Ends.ret1 (.inl rfl) Tryd.results96 (ResOK.tmp rfl trivial Imp.refl)

theorem slices_DeleteFunc_string_ok {s1 : (List Str)} {del1 : (Str → Option Bool)} {r : (List Str)} {s42 : Value} (h : slices_DeleteFunc_string s1 del1 = some r) : FSpecO Tryd.prog 78 [isV s42, fn1 Tryd.prog (rep (α := Bool)) del1] [(s42, rowV 9 s1)] (anyV) [none, some (rowV 9 r)] := by
  unfold slices_DeleteFunc_string at h
  refine FSpecO.intro (n := 42) fnok78 Tryd.func78 rfl Tryd.ntmps78 rfl (fun F => ?_)
  refine Cod.seq ?_
  refine Cod.region [] mixed (by kernel_rfl) ?_
  refine Chain.cons (StepOK.assign .none (.const (x := ([] : (List Str))) (fun M w => ⟨_, ⟨none, 0, rfl, Nat.le_refl _, by decide, rfl⟩, rfl⟩))) rfl ?_
  refine Chain.nil ?_
  refine Ends.then ?_
  refine Cod.seq ?_
  refine Cod.region [([], []), ([], []), ([42], []), ([], [])] mixed (by kernel_rfl) ?_
  refine Chain.consA (StepOK.move .none (.tmp rfl (fun _ => trivial))) rfl ?_
  refine Chain.consA (StepOK.move .none (.tmp rfl (fun _ => trivial))) rfl ?_
  obtain ⟨i1, hv1, h⟩ := bind_some h
  refine Chain.consA (StepOK.callC .none fnok96 (fun hg => slices_IndexFunc_string_ok  hv1) .rep (.lend (k := 42) (.told (.tmp rfl (fun _ => trivial)) rfl) (.cons (.tmp rfl (fun _ => trivial)) .nil))) rfl ?_
  refine Chain.consA (StepOK.assign .none (.tmp rfl (fun _ => trivial))) rfl ?_
  refine Chain.nil ?_
  refine Ends.then ?_
  refine Cod.seq ?_
  refine Cod.seq ?_
  refine Cod.region [] mixed (by kernel_rfl) ?_
  refine Chain.cons (StepOK.move .none (.tmp rfl (fun _ => trivial))) rfl ?_
  refine Chain.cons (StepOK.eqI .none (.tmp rfl (fun _ => trivial)) (.int (by decide))) rfl ?_
  refine Chain.nil ?_
  refine Ends.then ?_
  refine Cod.cond (t := 12) rfl trivial (fun hb2 => ?_) (fun hb2 => ?_)
  · replace h := bif_t h hb2
    refine Cod.seq ?_
    refine Cod.region [] mixed (by kernel_rfl) ?_
    refine Chain.cons (StepOK.move .none (.tmp rfl (fun _ => trivial))) rfl ?_
    refine Chain.cons (StepOK.assign .none (.tmp rfl (fun _ => trivial))) rfl ?_
    refine Chain.nil ?_
    refine Ends.then ?_
    refine Cod.ret ?_
    refine Ends.thenRet ?_
    refine Ends.anon (t := 4) (g := 42) rfl rfl trivial rfl ?_
    obtain rfl := some_eq h
    exact Ends.ret1O (.inl rfl) [42, 4] Tryd.results78 (by decide) (.skip (.res rfl rfl)) (ResOK.tmp rfl trivial (fun _ _ _ _ => trivial))
  · replace h := bif_f h hb2
    refine Cod.skip ?_
    refine Ends.then ?_
    refine Cod.seq ?_
    refine Cod.seq ?_
    refine Cod.region [] mixed (by kernel_rfl) ?_
    refine Chain.cons (StepOK.move .none (.tmp rfl (fun _ => trivial))) rfl ?_
    refine Chain.cons (StepOK.addW .none (.tmp rfl (fun _ => trivial)) (.int (by decide))) rfl ?_
    obtain ⟨j1, hv3, h⟩ := bnd_some h
    refine Chain.cons (StepOK.re hv3 (StepOK.assign .none (.tmp rfl (fun _ => trivial)))) rfl ?_
    refine Chain.nil ?_
    refine Ends.then ?_
    obtain ⟨j_4, h, hK4⟩ := bind_some h
    refine Cod.thenJ (ι := (Int × (List Str))) (fun j_4 => [(5, ⟨True, rep j_4.1⟩)]) (fun j_4 => [(42, some (CPred.at s42 (rowV 9 j_4.2)))]) (fun s => j_4 = s) (.cons (t := 0) rfl Sub.nil) SubB.nil ?_ (fun j_4' hj4 => ?_)
    · skip
      refine Cod.block ?_
      refine Cod.loopL h (fun s5_ => [(5, ⟨True, rep s5_.1⟩), (6, ⟨True, rep s5_.2.1⟩)]) (fun s5_ => [(42, some (CPred.at s42 (rowV 9 s5_.2.2)))]) (.cons (t := 5) rfl (.cons (t := 6) rfl Sub.nil)) (.cons (t := 42) rfl SubB.nil) (.cons (t := 0) rfl (.cons (t := 1) rfl Sub.nil)) SubB.nil (fun s5_ o_5 h hD5 => ?_)
      unfold slices_DeleteFunc_string_L1 at h
      refine Cod.seq ?_
      refine Cod.seq ?_
      refine Cod.region [([], []), ([], []), ([42], []), ([], [])] mixed (by kernel_rfl) ?_
      refine Chain.consA (StepOK.move .none (.tmp rfl (fun _ => trivial))) rfl ?_
      refine Chain.consA (StepOK.move .none (.tmp rfl (fun _ => trivial))) rfl ?_
      refine Chain.consA (StepOK.lenO (k := 42) sl30 (.told (.tmp rfl (fun _ => trivial)) rfl)) rfl ?_
      refine Chain.consA (StepOK.lt .none (.tmp rfl (fun _ => trivial)) (.tmp rfl (fun _ => trivial))) rfl ?_
      refine Chain.nil ?_
      refine Ends.then ?_
      refine Cod.cond (t := 19) rfl trivial (fun hb6 => ?_) (fun hb6 => ?_)
      · replace h := bif_t h hb6
        refine Cod.skip ?_
        refine Ends.then ?_
        refine Cod.seq ?_
        obtain ⟨j_7, h, hK7⟩ := bind_some h
        refine Cod.thenJ (ι := (Int × (List Str))) (fun j_7 => [(5, ⟨True, rep j_7.1⟩)]) (fun j_7 => [(42, some (CPred.at s42 (rowV 9 j_7.2)))]) (fun s => j_7 = s) (.cons (t := 0) rfl (.cons (t := 1) rfl (.cons (t := 6) rfl Sub.nil))) SubB.nil ?_ (fun j_7' hj7 => ?_)
        · skip
          refine Cod.block ?_
          refine Cod.seq ?_
          refine Cod.region [([], []), ([], []), ([42], []), ([42], []), ([], [])] mixed (by kernel_rfl) ?_
          refine Chain.consA (StepOK.move .none (.tmp rfl (fun _ => trivial))) rfl ?_
          refine Chain.consA (StepOK.move .none (.tmp rfl (fun _ => trivial))) rfl ?_
          obtain ⟨hn8, h⟩ := need_some h
          refine Chain.consA (StepOK.indexAddrO (k := 42) .none sl30 ty9 (.tmp rfl (fun _ => trivial)) rfl (.tmp rfl (fun _ => trivial)) (fun _ => hn8)) rfl ?_
          refine Chain.consA (StepOK.loadElem0 (k := 42) .none ty9 (.tmp rfl (fun _ => trivial)) rfl (fun _ => hn8)) rfl ?_
          obtain ⟨v1, hv9, h⟩ := bnd_some h
          refine Chain.consA (StepOK.re hv9 (StepOK.assign .none (.tmp rfl (fun _ => trivial)))) rfl ?_
          refine Chain.nil ?_
          refine Ends.then ?_
          refine Cod.seq ?_
          refine Cod.region [] mixed (by kernel_rfl) ?_
          refine Chain.cons (StepOK.move .none (.tmp rfl (fun _ => trivial))) rfl ?_
          refine Chain.cons (StepOK.move .none (.tmp rfl (fun _ => trivial))) rfl ?_
          obtain ⟨r1, hv10, h⟩ := bind_some h
          refine Chain.cons (StepOK.callV (v1, r1) .none (.tmp rfl (fun _ => trivial)) (fun _ => hv10) (.cons (.tmp rfl (fun _ => trivial)) .nil)) rfl ?_
          refine Chain.cons (StepOK.not .none (.tmp rfl (fun _ => trivial))) rfl ?_
          refine Chain.nil ?_
          refine Ends.then ?_
          refine Cod.cond (t := 29) rfl trivial (fun hb11 => ?_) (fun hb11 => ?_)
          · replace h := bif_t h hb11
            refine Cod.seq ?_
            refine Cod.region [([], []), ([], []), ([], []), ([42], []), ([42], [42])] mixed (by kernel_rfl) ?_
            refine Chain.consA (StepOK.move .none (.tmp rfl (fun _ => trivial))) rfl ?_
            refine Chain.consA (StepOK.move .none (.tmp rfl (fun _ => trivial))) rfl ?_
            refine Chain.consA (StepOK.move .none (.tmp rfl (fun _ => trivial))) rfl ?_
            obtain ⟨hn12, h⟩ := need_some h
            refine Chain.consA (StepOK.indexAddrO (k := 42) .none sl30 ty9 (.tmp rfl (fun _ => trivial)) rfl (.tmp rfl (fun _ => trivial)) (fun _ => hn12)) rfl ?_
            refine Chain.consN (StepOK.storeElem0 (k := 42) ty9 (.tmp rfl (fun _ => trivial)) rfl (.tmp rfl (fun _ => trivial)) hn12) rfl ?_
            refine Chain.nil ?_
            refine Ends.then ?_
            obtain ⟨s2, hv13, h⟩ := bnd_some h
            refine Cod.reB (t := 42) rfl (congrArg (fun y => CPred.at s42 (rowV 9 y)) hv13) ?_
            refine Cod.region [] mixed (by kernel_rfl) ?_
            refine Chain.cons (StepOK.move .none (.tmp rfl (fun _ => trivial))) rfl ?_
            refine Chain.cons (StepOK.addW .none (.tmp rfl (fun _ => trivial)) (.int (by decide))) rfl ?_
            obtain ⟨i2, hv14, h⟩ := bnd_some h
            refine Chain.cons (StepOK.re hv14 (StepOK.assign .none (.tmp rfl (fun _ => trivial)))) rfl ?_
            refine Chain.nil ?_
            refine Ends.blkNormal ?_
            exact Ends.join _ (some_eq h) (.cons (t := 5) rfl (.cons (t := 0) rfl (.cons (t := 1) rfl (.cons (t := 6) rfl Sub.nil)))) (.cons (t := 42) rfl SubB.nil)
          · replace h := bif_f h hb11
            refine Cod.skip ?_
            refine Ends.blkNormal ?_
            exact Ends.join _ (some_eq h) (.cons (t := 5) rfl (.cons (t := 0) rfl (.cons (t := 1) rfl (.cons (t := 6) rfl Sub.nil)))) (.cons (t := 42) rfl SubB.nil)
        · subst hj7; have h := hK7; clear hK7
          refine Cod.region [] mixed (by kernel_rfl) ?_
          refine Chain.cons (StepOK.move .none (.tmp rfl (fun _ => trivial))) rfl ?_
          refine Chain.cons (StepOK.addW .none (.tmp rfl (fun _ => trivial)) (.int (by decide))) rfl ?_
          obtain ⟨j2, hv15, h⟩ := bnd_some h
          refine Chain.cons (StepOK.re hv15 (StepOK.assign .none (.tmp rfl (fun _ => trivial)))) rfl ?_
          refine Chain.nil ?_
          exact Ends.againL (some_eq h) (.cons (t := 5) rfl (.cons (t := 6) rfl (.cons (t := 0) rfl (.cons (t := 1) rfl Sub.nil)))) (.cons (t := 42) rfl SubB.nil)
      · replace h := bif_f h hb6
        refine Cod.exit ?_
        refine Ends.thenExit ?_
        refine Ends.thenExit ?_
        refine Ends.blkExit ?_
        replace h := hD5 _ (some_eq h)
        exact Ends.join _ (some_eq h) (.cons (t := 5) rfl (.cons (t := 0) rfl Sub.nil)) (.cons (t := 42) rfl SubB.nil)
    · subst hj4; have h := hK4; clear hK4
      refine Cod.seq ?_
      refine Cod.region [([], []), ([], []), ([42], []), ([42], [42])] mixed (by kernel_rfl) ?_
      refine Chain.consA (StepOK.move .none (.tmp rfl (fun _ => trivial))) rfl ?_
      refine Chain.consA (StepOK.move .none (.tmp rfl (fun _ => trivial))) rfl ?_
      obtain ⟨hn16, h⟩ := need_some h
      refine Chain.consA (StepOK.sliceLend (k := 42) sl30 ty9 (.tmp rfl (fun _ => trivial)) rfl (.tmp rfl (fun _ => trivial)) rfl hn16) rfl ?_
      refine Chain.consN (StepOK.clearPart (k := 42) sl30 zo9 (.tmp rfl (fun _ => trivial)) rfl hn16) rfl ?_
      refine Chain.nil ?_
      refine Ends.then ?_
      obtain ⟨s3, hv17, h⟩ := bnd_some h
      refine Cod.reB (t := 42) rfl (congrArg (fun y => CPred.at s42 (rowV 9 y)) hv17) ?_
      refine Cod.seq ?_
      refine Cod.region [([], []), ([], []), ([42], [41, 42]), ([41], [4, 41])] mixed (by kernel_rfl) ?_
      refine Chain.consA (StepOK.move .none (.tmp rfl (fun _ => trivial))) rfl ?_
      refine Chain.consA (StepOK.move .none (.tmp rfl (fun _ => trivial))) rfl ?_
      obtain ⟨hn18, h⟩ := need_some h
      refine Chain.consW (StepOK.sliceRow (k := 42) sl30 ty9 rfl (.tmp rfl (fun _ => trivial)) rfl rfl (.tmp rfl (fun _ => trivial)) hn18) rfl rfl ?_
      refine Chain.consW (StepOK.passRow rfl (.tmp rfl)) rfl rfl ?_
      refine Chain.nil ?_
      refine Ends.then ?_
      obtain ⟨v2, hv19, h⟩ := bnd_some h
      refine Cod.reB (t := 4) rfl (congrArg (rowV 9) hv19) ?_
      refine Cod.nameRow (t := 4) (g := 5001) rfl rfl rfl (fun s5001 => ?_)
      refine Cod.ret ?_
      refine Ends.anon (t := 4) (g := 5001) rfl rfl trivial rfl ?_
      obtain rfl := some_eq h
      exact Ends.ret1O (.inl rfl) [42, 4] Tryd.results78 (by decide) (.skip (.res rfl rfl)) (ResOK.tmp rfl trivial (fun _ _ _ _ => trivial))

theorem shape_wordsOf_1_ok {w1 : Str} {r : Bool}  (h : shape_wordsOf_1 w1 = some r) : FSpec Tryd.prog 79 [rep w1] (rep r) := by
  unfold shape_wordsOf_1 at h
  refine FSpec.intro (n := 5) fnok79 Tryd.func79 rfl Tryd.ntmps79 rfl (fun F => ?_)
  refine Cod.seq ?_
  refine Cod.region [] mixed (by kernel_rfl) ?_
  refine Chain.cons (StepOK.assign .none .bool) rfl ?_
  refine Chain.nil ?_
  refine Ends.then ?_
  refine Cod.seq ?_
  refine Cod.region [] mixed (by kernel_rfl) ?_
  refine Chain.cons (StepOK.move .none (.tmp rfl (fun _ => trivial))) rfl ?_
  refine Chain.cons (StepOK.eqS .none (eqAt_str Tryd.underlying9) (.tmp rfl (fun _ => trivial)) (.str (l := []) (by decide))) rfl ?_
  refine Chain.cons (StepOK.assign .none (.tmp rfl (fun _ => trivial))) rfl ?_
  refine Chain.nil ?_
  refine Ends.then ?_
  refine Cod.ret ?_
  obtain rfl := some_eq h
  exact Ends.ret1 (.inl rfl) Tryd.results79 (ResOK.tmp rfl trivial Imp.refl)

theorem shape_wordsOf_ok {part1 : Str} {r : (List Str)}  (h : shape_wordsOf part1 = some r) : FSpec Tryd.prog 53 [rep part1] (rep r) := by
  unfold shape_wordsOf at h
  refine FSpec.intro (n := 6) fnok53 Tryd.func53 rfl Tryd.ntmps53 rfl (fun F => ?_)
  refine Cod.seq ?_
  refine Cod.region [] mixed (by kernel_rfl) ?_
  refine Chain.cons (StepOK.assign .none (.const (x := ([] : (List Str))) (fun M w => ⟨_, ⟨none, 0, rfl, Nat.le_refl _, by decide, rfl⟩, rfl⟩))) rfl ?_
  refine Chain.nil ?_
  refine Ends.then ?_
  refine Cod.seq ?_
  refine Cod.region [([], []), ([], [4]), ([4], [4, 5]), ([5], [2, 5])] mixed (by kernel_rfl) ?_
  refine Chain.consA (StepOK.move .none (.tmp rfl (fun _ => trivial))) rfl ?_
  obtain ⟨r1, hv1, h⟩ := bind_some h
  refine Chain.consW (StepOK.callO [] (strings_Split_ok hv1) (.cons (.tmp rfl (fun _ => trivial)) (.cons (.str (l := [32]) (by decide)) .nil)) .nil rfl (by decide) (by decide) (by intro d h; cases h; decide)) rfl rfl ?_
  obtain ⟨r2, hv2, h⟩ := bind_some h
  refine Chain.consW (StepOK.tell (t := 4) rfl row_one rfl (by decide) (fun _ => StepOK.callO [4] (slices_DeleteFunc_string_ok hv2) (.cons (.tmp rfl (fun _ => trivial)) (.cons (Opd.func (ι := Str × Bool) (pre := fun i => shape_wordsOf_1 i.1 = some i.2) (Ss := fun i => [rep i.1]) (S := fun i => rep i.2) fnok79 (fun i h => shape_wordsOf_1_ok h)) .nil)) (.cons (k := 4) rfl .nil) rfl (by decide) (by decide) (by intro d h; cases h; decide))) rfl rfl ?_
  refine Chain.consW (StepOK.passRow rfl (.tmp rfl)) rfl rfl ?_
  refine Chain.nil ?_
  refine Ends.then ?_
  refine Cod.freezeRowA (t := 2) rfl rfl SubB.nil rfl ?_
  refine Cod.ret ?_
  obtain rfl := some_eq h
  exact Ends.ret1 (.inl rfl) Tryd.results53 (ResOK.tmp rfl trivial Imp.refl)

theorem utf8_ValidRune_ok {r1 : (KI .i32)} {r : Bool}  (h : utf8_ValidRune r1 = some r) : FSpec Tryd.prog 94 [rep r1] (rep r) := by
  unfold utf8_ValidRune at h
  refine FSpec.intro (n := 17) fnok94 Tryd.func94 rfl Tryd.ntmps94 rfl (fun F => ?_)
  refine Cod.seq ?_
  refine Cod.region [] mixed (by kernel_rfl) ?_
  refine Chain.cons (StepOK.assign .none .bool) rfl ?_
  refine Chain.nil ?_
  refine Ends.then ?_
  refine Cod.seq ?_
  refine Cod.block ?_
  refine Cod.seq ?_
  refine Cod.region [] mixed (by kernel_rfl) ?_
  refine Chain.cons (StepOK.move .none (.tmp rfl (fun _ => trivial))) rfl ?_
  refine Chain.cons (StepOK.kleq .none .ki (.tmp rfl (fun _ => trivial))) rfl ?_
  refine Chain.cons (StepOK.move .none (.tmp rfl (fun _ => trivial))) rfl ?_
  refine Chain.cons (StepOK.move (.at rfl rfl) (.tmp rfl (fun _ => trivial))) rfl ?_
  refine Chain.cons (StepOK.klss (.at rfl rfl) (.tmp rfl id) .ki) rfl ?_
  refine Chain.cons (StepOK.pickAnd .none (.tmp rfl (fun _ => trivial)) (.tmp rfl id)) rfl ?_
  refine Chain.cons (StepOK.assign .none (.tmp rfl (fun _ => trivial))) rfl ?_
  refine Chain.nil ?_
  refine Ends.then ?_
  refine Cod.cond (t := 3) rfl trivial (fun hb1 => ?_) (fun hb1 => ?_)
  · replace h := bif_t h hb1
    refine Cod.seq ?_
    refine Cod.region [] mixed (by kernel_rfl) ?_
    refine Chain.cons (StepOK.assign .none .bool) rfl ?_
    refine Chain.nil ?_
    refine Ends.then ?_
    refine Cod.ret ?_
    refine Ends.blkRet ?_
    refine Ends.thenRet ?_
    obtain rfl := some_eq h
    exact Ends.ret1 (.inl rfl) Tryd.results94 (ResOK.tmp rfl trivial Imp.refl)
  · replace h := bif_f h hb1
    refine Cod.seq ?_
    refine Cod.region [] mixed (by kernel_rfl) ?_
    refine Chain.cons (StepOK.move .none (.tmp rfl (fun _ => trivial))) rfl ?_
    refine Chain.cons (StepOK.klss .none .ki (.tmp rfl (fun _ => trivial))) rfl ?_
    refine Chain.cons (StepOK.move .none (.tmp rfl (fun _ => trivial))) rfl ?_
    refine Chain.cons (StepOK.move (.at rfl rfl) (.tmp rfl (fun _ => trivial))) rfl ?_
    refine Chain.cons (StepOK.kleq (.at rfl rfl) (.tmp rfl id) .ki) rfl ?_
    refine Chain.cons (StepOK.pickAnd .none (.tmp rfl (fun _ => trivial)) (.tmp rfl id)) rfl ?_
    refine Chain.cons (StepOK.assign .none (.tmp rfl (fun _ => trivial))) rfl ?_
    refine Chain.nil ?_
    refine Ends.then ?_
    refine Cod.cond (t := 10) rfl trivial (fun hb2 => ?_) (fun hb2 => ?_)
    · replace h := bif_t h hb2
      refine Cod.seq ?_
      refine Cod.region [] mixed (by kernel_rfl) ?_
      refine Chain.cons (StepOK.assign .none .bool) rfl ?_
      refine Chain.nil ?_
      refine Ends.then ?_
      refine Cod.ret ?_
      refine Ends.blkRet ?_
      refine Ends.thenRet ?_
      obtain rfl := some_eq h
      exact Ends.ret1 (.inl rfl) Tryd.results94 (ResOK.tmp rfl trivial Imp.refl)
    · replace h := bif_f h hb2
      refine Cod.skip ?_
      refine Ends.blkNormal ?_
      refine Ends.then ?_
      refine Cod.seq ?_
      refine Cod.region [] mixed (by kernel_rfl) ?_
      refine Chain.cons (StepOK.assign .none .bool) rfl ?_
      refine Chain.nil ?_
      refine Ends.then ?_
      refine Cod.ret ?_
      obtain rfl := some_eq h
      exact Ends.ret1 (.inl rfl) Tryd.results94 (ResOK.tmp rfl trivial Imp.refl)

theorem strings_IndexRune_ok {s1 : Str} {r1 : (KI .i32)} {r : Int}  (h : strings_IndexRune s1 r1 = some r) : FSpec Tryd.prog 75 [rep s1, rep r1] (rep r) := by
  unfold strings_IndexRune at h
  refine FSpec.intro (n := 187) fnok75 Tryd.func75 rfl Tryd.ntmps75 rfl (fun F => ?_)
  refine Cod.seq ?_
  refine Cod.region [] mixed (by kernel_rfl) ?_
  refine Chain.cons (StepOK.assign .none (.int (by decide))) rfl ?_
  refine Chain.nil ?_
  refine Ends.then ?_
  refine Cod.block ?_
  refine Cod.seq ?_
  refine Cod.region [] mixed (by kernel_rfl) ?_
  refine Chain.cons (StepOK.move .none (.tmp rfl (fun _ => trivial))) rfl ?_
  refine Chain.cons (StepOK.kleq .none .ki (.tmp rfl (fun _ => trivial))) rfl ?_
  refine Chain.cons (StepOK.move .none (.tmp rfl (fun _ => trivial))) rfl ?_
  refine Chain.cons (StepOK.move (.at rfl rfl) (.tmp rfl (fun _ => trivial))) rfl ?_
  refine Chain.cons (StepOK.klss (.at rfl rfl) (.tmp rfl id) .ki) rfl ?_
  refine Chain.cons (StepOK.pickAnd .none (.tmp rfl (fun _ => trivial)) (.tmp rfl id)) rfl ?_
  refine Chain.cons (StepOK.assign .none (.tmp rfl (fun _ => trivial))) rfl ?_
  refine Chain.nil ?_
  refine Ends.then ?_
  refine Cod.cond (t := 160) rfl trivial (fun hb1 => ?_) (fun hb1 => ?_)
  · replace h := bif_t h hb1
    refine Cod.seq ?_
    refine Cod.region [] mixed (by kernel_rfl) ?_
    refine Chain.cons (StepOK.move .none (.tmp rfl (fun _ => trivial))) rfl ?_
    refine Chain.cons (StepOK.move .none (.tmp rfl (fun _ => trivial))) rfl ?_
    refine Chain.cons (StepOK.toK .none (by kernel_rfl) Tryd.underlying5 (.tmp rfl (fun _ => trivial))) rfl ?_
    obtain ⟨r2, hv2, h⟩ := bind_some h
    refine Chain.cons (StepOK.call .none (strings_IndexByte_ok hv2) (.cons (.tmp rfl (fun _ => trivial)) (.cons (.tmp rfl (fun _ => trivial)) .nil))) rfl ?_
    refine Chain.cons (StepOK.assign .none (.tmp rfl (fun _ => trivial))) rfl ?_
    refine Chain.nil ?_
    refine Ends.then ?_
    refine Cod.ret ?_
    refine Ends.blkRet ?_
    obtain rfl := some_eq h
    exact Ends.ret1 (.inl rfl) Tryd.results75 (ResOK.tmp rfl trivial Imp.refl)
  · replace h := bif_f h hb1
    refine Cod.seq ?_
    refine Cod.region [] mixed (by kernel_rfl) ?_
    refine Chain.cons (StepOK.move .none (.tmp rfl (fun _ => trivial))) rfl ?_
    refine Chain.cons (StepOK.keql .none (.tmp rfl (fun _ => trivial)) .ki) rfl ?_
    refine Chain.cons (StepOK.assign .none (.tmp rfl (fun _ => trivial))) rfl ?_
    refine Chain.nil ?_
    refine Ends.then ?_
    refine Cod.cond (t := 171) rfl trivial (fun hb3 => ?_) (fun hb3 => ?_)
    · replace h := bif_t h hb3
      refine Cod.seq ?_
      refine Cod.seq ?_
      refine Cod.region [([], []), ([], [175])] mixed (by kernel_rfl) ?_
      refine Chain.consA (StepOK.move .none (.tmp rfl (fun _ => trivial))) rfl ?_
      refine Chain.consW (StepOK.rangeStr Tryd.underlying9 rfl (.tmp rfl (fun _ => trivial))) rfl rfl ?_
      refine Chain.nil ?_
      refine Ends.then ?_
      refine Cod.nameAt (t := 175) (g := 5001) rfl rfl isBox_iter rfl (fun m5001 => ?_)
      obtain ⟨o_4, h, hK4⟩ := bindR_some h
      refine Cod.thenJ (ι := Unit) (fun j_4 => []) (fun j_4 => []) (fun s => o_4 = Res.nx s) Sub.nil SubB.nil ?_ (fun j_4 hj4 => ?_)
      · skip
        refine Cod.block ?_
        refine Cod.loopL h (fun s5_ => []) (fun s5_ => [(5001, some (CPred.at (ptr m5001 0) (iterV s1 s5_)))]) Sub.nil (.cons (t := 5001) rfl SubB.nil) (.cons (t := 175) rfl Sub.nil) SubB.nil (fun s5_ o_5 h hD5 => ?_)
        unfold strings_IndexRune_L1 at h
        refine Cod.seq ?_
        refine Cod.region [([5001], [5001]), ([], [])] mixed (by kernel_rfl) ?_
        refine Chain.consW (StepOK.nextStr (k := 5001) rfl rfl (.tmp rfl (fun _ => trivial)) (by decide)) rfl rfl ?_
        refine Chain.consA (StepOK.nextOk .none (.tmp rfl (fun _ => trivial))) rfl ?_
        refine Chain.nil ?_
        refine Ends.then ?_
        obtain ⟨at1, hv6, h⟩ := bnd_some h
        refine Cod.reB (t := 5001) rfl (congrArg (fun y => CPred.at (ptr m5001 0) (iterV s1 y)) hv6) ?_
        refine Cod.seq ?_
        refine Cod.cond (t := 177) rfl trivial (fun hb7 => ?_) (fun hb7 => ?_)
        · replace h := bif_t h hb7
          refine Cod.skip ?_
          refine Ends.then ?_
          refine Cod.block ?_
          refine Cod.seq ?_
          refine Cod.region [] mixed (by kernel_rfl) ?_
          obtain ⟨hn8, h⟩ := need_some h
          refine Chain.cons (StepOK.nextAt .none (.tmp rfl (fun _ => trivial)) (fun _ => hn8)) rfl ?_
          obtain ⟨hn9, h⟩ := need_some h
          refine Chain.cons (StepOK.nextRune .none (.tmp rfl (fun _ => trivial)) (fun _ => hn9)) rfl ?_
          refine Chain.cons (StepOK.assign .none (.tmp rfl (fun _ => trivial))) rfl ?_
          refine Chain.cons (StepOK.assign .none (.tmp rfl (fun _ => trivial))) rfl ?_
          refine Chain.nil ?_
          refine Ends.then ?_
          refine Cod.seq ?_
          refine Cod.region [] mixed (by kernel_rfl) ?_
          refine Chain.cons (StepOK.move .none (.tmp rfl (fun _ => trivial))) rfl ?_
          refine Chain.cons (StepOK.keql .none (.tmp rfl (fun _ => trivial)) .ki) rfl ?_
          refine Chain.nil ?_
          refine Ends.then ?_
          refine Cod.cond (t := 181) rfl trivial (fun hb10 => ?_) (fun hb10 => ?_)
          · replace h := bif_t h hb10
            refine Cod.seq ?_
            refine Cod.region [] mixed (by kernel_rfl) ?_
            refine Chain.cons (StepOK.move .none (.tmp rfl (fun _ => trivial))) rfl ?_
            refine Chain.cons (StepOK.assign .none (.tmp rfl (fun _ => trivial))) rfl ?_
            refine Chain.nil ?_
            refine Ends.then ?_
            refine Cod.ret ?_
            refine Ends.blkRet ?_
            refine Ends.thenRet ?_
            refine Ends.blkRet ?_
            refine Ends.thenRet ?_
            refine Ends.blkRet ?_
            replace h := hD5 _ (some_eq h)
            replace h := resb_ab hK4 (some_eq h)
            obtain rfl := some_eq h
            exact Ends.ret1 (.inl rfl) Tryd.results75 (ResOK.tmp rfl trivial Imp.refl)
          · replace h := bif_f h hb10
            refine Cod.skip ?_
            refine Ends.blkNormal ?_
            exact Ends.againL (some_eq h) (.cons (t := 175) rfl Sub.nil) (.cons (t := 5001) rfl SubB.nil)
        · replace h := bif_f h hb7
          refine Cod.exit ?_
          refine Ends.thenExit ?_
          refine Ends.thenExit ?_
          refine Ends.blkExit ?_
          replace h := hD5 _ (some_eq h)
          exact Ends.join _ (some_eq h) Sub.nil SubB.nil
      · have h := resb_nx hK4 hj4
        refine Cod.seq ?_
        refine Cod.region [] mixed (by kernel_rfl) ?_
        refine Chain.cons (StepOK.assign .none (.int (by decide))) rfl ?_
        refine Chain.nil ?_
        refine Ends.then ?_
        refine Cod.ret ?_
        refine Ends.blkRet ?_
        obtain rfl := some_eq h
        exact Ends.ret1 (.inl rfl) Tryd.results75 (ResOK.tmp rfl trivial Imp.refl)
    · replace h := bif_f h hb3
      refine Cod.seq ?_
      refine Cod.region [] mixed (by kernel_rfl) ?_
      refine Chain.cons (StepOK.move .none (.tmp rfl (fun _ => trivial))) rfl ?_
      obtain ⟨r3, hv11, h⟩ := bind_some h
      refine Chain.cons (StepOK.call .none (utf8_ValidRune_ok hv11) (.cons (.tmp rfl (fun _ => trivial)) .nil)) rfl ?_
      refine Chain.cons (StepOK.not .none (.tmp rfl (fun _ => trivial))) rfl ?_
      refine Chain.cons (StepOK.assign .none (.tmp rfl (fun _ => trivial))) rfl ?_
      refine Chain.nil ?_
      refine Ends.then ?_
      refine Cod.cond (t := 183) rfl trivial (fun hb12 => ?_) (fun hb12 => ?_)
      · replace h := bif_t h hb12
        refine Cod.seq ?_
        refine Cod.region [] mixed (by kernel_rfl) ?_
        refine Chain.cons (StepOK.assign .none (.int (by decide))) rfl ?_
        refine Chain.nil ?_
        refine Ends.then ?_
        refine Cod.ret ?_
        refine Ends.blkRet ?_
        obtain rfl := some_eq h
        exact Ends.ret1 (.inl rfl) Tryd.results75 (ResOK.tmp rfl trivial Imp.refl)
      · replace h := bif_f h hb12
        refine Cod.scope ?_
        refine Cod.seq ?_
        refine Cod.region [] mixed (by kernel_rfl) ?_
        refine Chain.cons (StepOK.move .none (.tmp rfl (fun _ => trivial))) rfl ?_
        refine Chain.cons (StepOK.intStr .none (by kernel_rfl) Tryd.underlying9 (.tmp rfl (fun _ => trivial))) rfl ?_
        obtain ⟨rs1, hv13, h⟩ := bnd_some h
        refine Chain.cons (StepOK.re hv13 (StepOK.assign .none (.tmp rfl (fun _ => trivial)))) rfl ?_
        refine Chain.nil ?_
        refine Ends.then ?_
        refine Cod.seq ?_
        refine Cod.region [] mixed (by kernel_rfl) ?_
        refine Chain.cons (StepOK.move .none (.tmp rfl (fun _ => trivial))) rfl ?_
        refine Chain.cons (StepOK.lenStr .none Tryd.underlying9 (.tmp rfl (fun _ => trivial))) rfl ?_
        refine Chain.cons (StepOK.subW .none (.tmp rfl (fun _ => trivial)) (.int (by decide))) rfl ?_
        obtain ⟨last1, hv14, h⟩ := bnd_some h
        refine Chain.cons (StepOK.re hv14 (StepOK.assign .none (.tmp rfl (fun _ => trivial)))) rfl ?_
        refine Chain.nil ?_
        refine Ends.then ?_
        refine Cod.seq ?_
        refine Cod.region [] mixed (by kernel_rfl) ?_
        refine Chain.cons (StepOK.move .none (.tmp rfl (fun _ => trivial))) rfl ?_
        refine Chain.cons (StepOK.assign .none (.tmp rfl (fun _ => trivial))) rfl ?_
        refine Chain.nil ?_
        refine Ends.then ?_
        refine Cod.seq ?_
        refine Cod.region [] mixed (by kernel_rfl) ?_
        refine Chain.cons (StepOK.assign .none (.int (by decide))) rfl ?_
        refine Chain.nil ?_
        refine Ends.then ?_
        refine Cod.seq ?_
        obtain ⟨o_15, h, hK15⟩ := bindR_some h
        refine Cod.thenJ (ι := Unit) (fun j_15 => []) (fun j_15 => []) (fun s => o_15 = Res.nx s) Sub.nil SubB.nil ?_ (fun j_15 hj15 => ?_)
        · skip
          refine Cod.block ?_
          refine Cod.loopL h (fun s16_ => []) (fun s16_ => []) Sub.nil SubB.nil (.cons (t := 0) rfl (.cons (t := 7) rfl (.cons (t := 8) rfl (.cons (t := 9) rfl Sub.nil)))) SubB.nil (fun s16_ o_16 h hD16 => ?_)
          unfold strings_IndexRune_L2 at h
          refine Cod.seq ?_
          refine Cod.seq ?_
          refine Cod.region [] mixed (by kernel_rfl) ?_
          refine Chain.cons (StepOK.move .none (.tmp rfl (fun _ => trivial))) rfl ?_
          refine Chain.cons (StepOK.move .none (.tmp rfl (fun _ => trivial))) rfl ?_
          refine Chain.cons (StepOK.lenStr .none Tryd.underlying9 (.tmp rfl (fun _ => trivial))) rfl ?_
          refine Chain.cons (StepOK.lt .none (.tmp rfl (fun _ => trivial)) (.tmp rfl (fun _ => trivial))) rfl ?_
          refine Chain.nil ?_
          refine Ends.then ?_
          refine Cod.cond (t := 26) rfl trivial (fun hb17 => ?_) (fun hb17 => ?_)
          · replace h := bif_t h hb17
            refine Cod.skip ?_
            refine Ends.then ?_
            refine Cod.block ?_
            refine Cod.scope ?_
            refine Cod.seq ?_
            refine Cod.seq ?_
            refine Cod.region [] mixed (by kernel_rfl) ?_
            refine Chain.cons (StepOK.move .none (.tmp rfl (fun _ => trivial))) rfl ?_
            refine Chain.cons (StepOK.move .none (.tmp rfl (fun _ => trivial))) rfl ?_
            obtain ⟨hn18, h⟩ := need_some h
            refine Chain.cons (StepOK.indexStr .none Tryd.underlying9 (.tmp rfl (fun _ => trivial)) (.tmp rfl (fun _ => trivial)) (fun _ => hn18)) rfl ?_
            refine Chain.cons (StepOK.move .none (.tmp rfl (fun _ => trivial))) rfl ?_
            refine Chain.cons (StepOK.move .none (.tmp rfl (fun _ => trivial))) rfl ?_
            obtain ⟨hn19, h⟩ := need_some h
            refine Chain.cons (StepOK.indexStr .none Tryd.underlying9 (.tmp rfl (fun _ => trivial)) (.tmp rfl (fun _ => trivial)) (fun _ => hn19)) rfl ?_
            refine Chain.cons (StepOK.kneq .none (.tmp rfl (fun _ => trivial)) (.tmp rfl (fun _ => trivial))) rfl ?_
            refine Chain.nil ?_
            refine Ends.then ?_
            obtain ⟨o_20, h, hK20⟩ := bindR_some h
            refine Cod.thenJ (ι := Int) (fun j_20 => [(9, ⟨True, rep j_20⟩)]) (fun j_20 => []) (fun s => o_20 = Res.nx s) (.cons (t := 0) rfl (.cons (t := 7) rfl (.cons (t := 8) rfl Sub.nil))) SubB.nil ?_ (fun j_20 hj20 => ?_)
            · skip
              refine Cod.cond (t := 33) rfl trivial (fun hb21 => ?_) (fun hb21 => ?_)
              · replace h := bif_t h hb21
                refine Cod.seq ?_
                refine Cod.region [] mixed (by kernel_rfl) ?_
                refine Chain.cons (StepOK.move .none (.tmp rfl (fun _ => trivial))) rfl ?_
                refine Chain.cons (StepOK.move .none (.tmp rfl (fun _ => trivial))) rfl ?_
                refine Chain.cons (StepOK.addW .none (.tmp rfl (fun _ => trivial)) (.int (by decide))) rfl ?_
                obtain ⟨hn22, h⟩ := need_some h
                refine Chain.cons (StepOK.sliceStr .none Tryd.underlying9 (.tmp rfl (fun _ => trivial)) (.tmp rfl (fun _ => trivial)) rfl (fun _ => hn22)) rfl ?_
                refine Chain.cons (StepOK.move .none (.tmp rfl (fun _ => trivial))) rfl ?_
                refine Chain.cons (StepOK.move .none (.tmp rfl (fun _ => trivial))) rfl ?_
                obtain ⟨hn23, h⟩ := need_some h
                refine Chain.cons (StepOK.indexStr .none Tryd.underlying9 (.tmp rfl (fun _ => trivial)) (.tmp rfl (fun _ => trivial)) (fun _ => hn23)) rfl ?_
                obtain ⟨o1, hv24, h⟩ := bind_some h
                refine Chain.cons (StepOK.call .none (strings_IndexByte_ok hv24) (.cons (.tmp rfl (fun _ => trivial)) (.cons (.tmp rfl (fun _ => trivial)) .nil))) rfl ?_
                refine Chain.cons (StepOK.assign .none (.tmp rfl (fun _ => trivial))) rfl ?_
                refine Chain.nil ?_
                refine Ends.then ?_
                refine Cod.seq ?_
                refine Cod.seq ?_
                refine Cod.region [] mixed (by kernel_rfl) ?_
                refine Chain.cons (StepOK.move .none (.tmp rfl (fun _ => trivial))) rfl ?_
                refine Chain.cons (StepOK.lt .none (.tmp rfl (fun _ => trivial)) (.int (by decide))) rfl ?_
                refine Chain.nil ?_
                refine Ends.then ?_
                refine Cod.cond (t := 43) rfl trivial (fun hb25 => ?_) (fun hb25 => ?_)
                · replace h := bif_t h hb25
                  refine Cod.seq ?_
                  refine Cod.region [] mixed (by kernel_rfl) ?_
                  refine Chain.cons (StepOK.assign .none (.int (by decide))) rfl ?_
                  refine Chain.nil ?_
                  refine Ends.then ?_
                  refine Cod.ret ?_
                  refine Ends.thenRet ?_
                  refine Ends.thenRet ?_
                  refine Ends.scpRet ?_
                  refine Ends.blkRet ?_
                  refine Ends.thenRet ?_
                  refine Ends.blkRet ?_
                  refine Ends.thenRet ?_
                  refine Ends.scpRet ?_
                  refine Ends.blkRet ?_
                  replace h := resb_ab hK20 (some_eq h)
                  replace h := hD16 _ (some_eq h)
                  replace h := resb_ab hK15 (some_eq h)
                  obtain rfl := some_eq h
                  exact Ends.ret1 (.inl rfl) Tryd.results75 (ResOK.tmp rfl trivial Imp.refl)
                · replace h := bif_f h hb25
                  refine Cod.skip ?_
                  refine Ends.then ?_
                  refine Cod.region [] mixed (by kernel_rfl) ?_
                  refine Chain.cons (StepOK.move .none (.tmp rfl (fun _ => trivial))) rfl ?_
                  refine Chain.cons (StepOK.move .none (.tmp rfl (fun _ => trivial))) rfl ?_
                  refine Chain.cons (StepOK.addW .none (.tmp rfl (fun _ => trivial)) (.int (by decide))) rfl ?_
                  refine Chain.cons (StepOK.addW .none (.tmp rfl (fun _ => trivial)) (.tmp rfl (fun _ => trivial))) rfl ?_
                  obtain ⟨i1, hv26, h⟩ := bnd_some h
                  refine Chain.cons (StepOK.re hv26 (StepOK.assign .none (.tmp rfl (fun _ => trivial)))) rfl ?_
                  refine Chain.nil ?_
                  exact Ends.join _ (some_eq h) (.cons (t := 9) rfl (.cons (t := 0) rfl (.cons (t := 7) rfl (.cons (t := 8) rfl Sub.nil)))) SubB.nil
              · replace h := bif_f h hb21
                refine Cod.skip ?_
                exact Ends.join _ (some_eq h) (.cons (t := 9) rfl (.cons (t := 0) rfl (.cons (t := 7) rfl (.cons (t := 8) rfl Sub.nil)))) SubB.nil
            · have h := resb_nx hK20 hj20
              refine Cod.seq ?_
              refine Cod.seq ?_
              refine Cod.region [] mixed (by kernel_rfl) ?_
              refine Chain.cons (StepOK.assign .none (.int (by decide))) rfl ?_
              refine Chain.nil ?_
              refine Ends.then ?_
              obtain ⟨j_27, h, hK27⟩ := bind_some h
              refine Cod.thenJ (ι := Unit) (fun j_27 => []) (fun j_27 => []) (fun s => j_27 = s) (.cons (t := 8) rfl (.cons (t := 9) rfl Sub.nil)) SubB.nil ?_ (fun j_27' hj27 => ?_)
              · skip
                refine Cod.block ?_
                refine Cod.loopL h (fun s28_ => [(12, ⟨True, rep s28_⟩)]) (fun s28_ => []) (.cons (t := 12) rfl Sub.nil) SubB.nil (.cons (t := 0) rfl (.cons (t := 7) rfl (.cons (t := 8) rfl (.cons (t := 9) rfl Sub.nil)))) SubB.nil (fun s28_ o_28 h hD28 => ?_)
                unfold strings_IndexRune_L3 at h
                refine Cod.seq ?_
                refine Cod.seq ?_
                refine Cod.region [] mixed (by kernel_rfl) ?_
                refine Chain.cons (StepOK.move .none (.tmp rfl (fun _ => trivial))) rfl ?_
                refine Chain.cons (StepOK.move .none (.tmp rfl (fun _ => trivial))) rfl ?_
                refine Chain.cons (StepOK.lenStr .none Tryd.underlying9 (.tmp rfl (fun _ => trivial))) rfl ?_
                refine Chain.cons (StepOK.lt .none (.tmp rfl (fun _ => trivial)) (.tmp rfl (fun _ => trivial))) rfl ?_
                refine Chain.nil ?_
                refine Ends.then ?_
                refine Cod.cond (t := 51) rfl trivial (fun hb29 => ?_) (fun hb29 => ?_)
                · replace h := bif_t h hb29
                  refine Cod.skip ?_
                  refine Ends.then ?_
                  refine Cod.seq ?_
                  refine Cod.block ?_
                  refine Cod.seq ?_
                  refine Cod.region [] mixed (by kernel_rfl) ?_
                  refine Chain.cons (StepOK.move .none (.tmp rfl (fun _ => trivial))) rfl ?_
                  refine Chain.cons (StepOK.move .none (.tmp rfl (fun _ => trivial))) rfl ?_
                  refine Chain.cons (StepOK.move .none (.tmp rfl (fun _ => trivial))) rfl ?_
                  refine Chain.cons (StepOK.subW .none (.tmp rfl (fun _ => trivial)) (.tmp rfl (fun _ => trivial))) rfl ?_
                  obtain ⟨hn30, h⟩ := need_some h
                  refine Chain.cons (StepOK.indexStr .none Tryd.underlying9 (.tmp rfl (fun _ => trivial)) (.tmp rfl (fun _ => trivial)) (fun _ => hn30)) rfl ?_
                  refine Chain.cons (StepOK.move .none (.tmp rfl (fun _ => trivial))) rfl ?_
                  refine Chain.cons (StepOK.move .none (.tmp rfl (fun _ => trivial))) rfl ?_
                  refine Chain.cons (StepOK.move .none (.tmp rfl (fun _ => trivial))) rfl ?_
                  refine Chain.cons (StepOK.subW .none (.tmp rfl (fun _ => trivial)) (.tmp rfl (fun _ => trivial))) rfl ?_
                  obtain ⟨hn31, h⟩ := need_some h
                  refine Chain.cons (StepOK.indexStr .none Tryd.underlying9 (.tmp rfl (fun _ => trivial)) (.tmp rfl (fun _ => trivial)) (fun _ => hn31)) rfl ?_
                  refine Chain.cons (StepOK.kneq .none (.tmp rfl (fun _ => trivial)) (.tmp rfl (fun _ => trivial))) rfl ?_
                  refine Chain.nil ?_
                  refine Ends.then ?_
                  refine Cod.cond (t := 64) rfl trivial (fun hb32 => ?_) (fun hb32 => ?_)
                  · replace h := bif_t h hb32
                    cases h
                  · replace h := bif_f h hb32
                    refine Cod.skip ?_
                    refine Ends.blkNormal ?_
                    refine Ends.then ?_
                    refine Cod.region [] mixed (by kernel_rfl) ?_
                    refine Chain.cons (StepOK.move .none (.tmp rfl (fun _ => trivial))) rfl ?_
                    refine Chain.cons (StepOK.addW .none (.tmp rfl (fun _ => trivial)) (.int (by decide))) rfl ?_
                    obtain ⟨j1, hv33, h⟩ := bnd_some h
                    refine Chain.cons (StepOK.re hv33 (StepOK.assign .none (.tmp rfl (fun _ => trivial)))) rfl ?_
                    refine Chain.nil ?_
                    exact Ends.againL (some_eq h) (.cons (t := 12) rfl (.cons (t := 0) rfl (.cons (t := 7) rfl (.cons (t := 8) rfl (.cons (t := 9) rfl Sub.nil))))) SubB.nil
                · replace h := bif_f h hb29
                  refine Cod.exit ?_
                  refine Ends.thenExit ?_
                  refine Ends.thenExit ?_
                  refine Ends.blkExit ?_
                  replace h := hD28 _ (some_eq h)
                  exact Ends.join _ (some_eq h) (.cons (t := 8) rfl (.cons (t := 9) rfl Sub.nil)) SubB.nil
              · subst hj27; have h := hK27; clear hK27
                refine Cod.seq ?_
                refine Cod.seq ?_
                refine Cod.region [] mixed (by kernel_rfl) ?_
                refine Chain.cons (StepOK.move .none (.tmp rfl (fun _ => trivial))) rfl ?_
                refine Chain.cons (StepOK.move .none (.tmp rfl (fun _ => trivial))) rfl ?_
                refine Chain.cons (StepOK.subW .none (.tmp rfl (fun _ => trivial)) (.tmp rfl (fun _ => trivial))) rfl ?_
                refine Chain.cons (StepOK.assign .none (.tmp rfl (fun _ => trivial))) rfl ?_
                refine Chain.nil ?_
                refine Ends.then ?_
                refine Cod.ret ?_
                refine Ends.thenRet ?_
                refine Ends.scpRet ?_
                refine Ends.blkRet ?_
                refine Ends.thenRet ?_
                refine Ends.blkRet ?_
                refine Ends.thenRet ?_
                refine Ends.scpRet ?_
                refine Ends.blkRet ?_
                replace h := hD16 _ (some_eq h)
                replace h := resb_ab hK15 (some_eq h)
                obtain rfl := some_eq h
                exact Ends.ret1 (.inl rfl) Tryd.results75 (ResOK.tmp rfl trivial Imp.refl)
          · replace h := bif_f h hb17
            refine Cod.exit ?_
            refine Ends.thenExit ?_
            refine Ends.thenExit ?_
            refine Ends.blkExit ?_
            replace h := hD16 _ (some_eq h)
            exact Ends.join _ (some_eq h) Sub.nil SubB.nil
        · have h := resb_nx hK15 hj15
          refine Cod.seq ?_
          refine Cod.seq ?_
          refine Cod.region [] mixed (by kernel_rfl) ?_
          refine Chain.cons (StepOK.assign .none (.int (by decide))) rfl ?_
          refine Chain.nil ?_
          refine Ends.then ?_
          refine Cod.ret ?_
          refine Ends.thenRet ?_
          refine Ends.scpRet ?_
          refine Ends.blkRet ?_
          obtain rfl := some_eq h
          exact Ends.ret1 (.inl rfl) Tryd.results75 (ResOK.tmp rfl trivial Imp.refl)

theorem strings_ContainsRune_ok {s1 : Str} {r1 : (KI .i32)} {r : Bool}  (h : strings_ContainsRune s1 r1 = some r) : FSpec Tryd.prog 47 [rep s1, rep r1] (rep r) := by
  unfold strings_ContainsRune at h
  refine FSpec.intro (n := 9) fnok47 Tryd.func47 rfl Tryd.ntmps47 rfl (fun F => ?_)
  refine Cod.seq ?_
  refine Cod.region [] mixed (by kernel_rfl) ?_
  refine Chain.cons (StepOK.assign .none .bool) rfl ?_
  refine Chain.nil ?_
  refine Ends.then ?_
  refine Cod.seq ?_
  refine Cod.region [] mixed (by kernel_rfl) ?_
  refine Chain.cons (StepOK.move .none (.tmp rfl (fun _ => trivial))) rfl ?_
  refine Chain.cons (StepOK.move .none (.tmp rfl (fun _ => trivial))) rfl ?_
  obtain ⟨r2, hv1, h⟩ := bind_some h
  refine Chain.cons (StepOK.call .none (strings_IndexRune_ok hv1) (.cons (.tmp rfl (fun _ => trivial)) (.cons (.tmp rfl (fun _ => trivial)) .nil))) rfl ?_
  refine Chain.cons (StepOK.ge .none (.tmp rfl (fun _ => trivial)) (.int (by decide))) rfl ?_
  refine Chain.cons (StepOK.assign .none (.tmp rfl (fun _ => trivial))) rfl ?_
  refine Chain.nil ?_
  refine Ends.then ?_
  refine Cod.ret ?_
  obtain rfl := some_eq h
  exact Ends.ret1 (.inl rfl) Tryd.results47 (ResOK.tmp rfl trivial Imp.refl)

theorem shape_letter_ok {f1 : Font} {c1 : (KI .i32)} {r : Int}  (h : shape_letter f1 c1 = some r) : FSpec Tryd.prog 72 [rep f1, rep c1] (rep r) := by
  unfold shape_letter at h
  refine FSpec.intro (n := 21) fnok72 Tryd.func72 rfl Tryd.ntmps72 rfl (fun F => ?_)
  refine Cod.seq ?_
  refine Cod.region [] mixed (by kernel_rfl) ?_
  refine Chain.cons (StepOK.box .none (.tmp rfl (fun _ => trivial))) rfl ?_
  refine Chain.cons (StepOK.assign .none (.int (by decide))) rfl ?_
  refine Chain.nil ?_
  refine Ends.then ?_
  refine Cod.seq ?_
  refine Cod.block ?_
  refine Cod.seq ?_
  refine Cod.region [] mixed (by kernel_rfl) ?_
  refine Chain.cons (StepOK.move .none (.tmp rfl (fun _ => trivial))) rfl ?_
  obtain ⟨r1, hv1, h⟩ := bind_some h
  refine Chain.cons (StepOK.call .none (strings_ContainsRune_ok hv1) (.cons (.str (l := [105, 106, 108, 39, 46, 44, 58, 59, 33, 124]) (by decide)) (.cons (.tmp rfl (fun _ => trivial)) .nil))) rfl ?_
  refine Chain.cons (StepOK.assign .none (.tmp rfl (fun _ => trivial))) rfl ?_
  refine Chain.nil ?_
  refine Ends.then ?_
  refine Cod.cond (t := 5) rfl trivial (fun hb2 => ?_) (fun hb2 => ?_)
  · replace h := bif_t h hb2
    refine Cod.seq ?_
    refine Cod.region [] mixed (by kernel_rfl) ?_
    refine Chain.cons (StepOK.fieldAddr .none fd23_1 hfd23_1 (.tmp rfl (fun _ => trivial))) rfl ?_
    refine Chain.cons (StepOK.load .none ty3 (.tmp rfl (fun _ => trivial))) rfl ?_
    refine Chain.cons (StepOK.assign .none (.tmp rfl (fun _ => trivial))) rfl ?_
    refine Chain.nil ?_
    refine Ends.then ?_
    refine Cod.ret ?_
    refine Ends.blkRet ?_
    refine Ends.thenRet ?_
    obtain rfl := some_eq h
    exact Ends.ret1 (.inl rfl) Tryd.results72 (ResOK.tmp rfl trivial Imp.refl)
  · replace h := bif_f h hb2
    refine Cod.seq ?_
    refine Cod.region [] mixed (by kernel_rfl) ?_
    refine Chain.cons (StepOK.move .none (.tmp rfl (fun _ => trivial))) rfl ?_
    refine Chain.cons (StepOK.kgeq .none (.tmp rfl (fun _ => trivial)) .ki) rfl ?_
    refine Chain.cons (StepOK.move .none (.tmp rfl (fun _ => trivial))) rfl ?_
    refine Chain.cons (StepOK.move (.at rfl rfl) (.tmp rfl (fun _ => trivial))) rfl ?_
    obtain ⟨r2, hv3, h⟩ := bind_some h
    refine Chain.cons (StepOK.callIf (.at rfl rfl) fnok47 (fun hg => strings_ContainsRune_ok ((fun hg => gd_some hv3 ((notT hg.2))) hg)) (.cons (.str (l := [109, 119, 77, 87, 64, 37]) (by decide)) (.cons (.tmp rfl id) .nil)) (fun h => h)) rfl ?_
    refine Chain.cons (StepOK.pickOr .none (.tmp rfl (fun _ => trivial)) (.tmp rfl id)) rfl ?_
    refine Chain.cons (StepOK.assign .none (.tmp rfl (fun _ => trivial))) rfl ?_
    refine Chain.nil ?_
    refine Ends.then ?_
    refine Cod.cond (t := 10) rfl trivial (fun hb4 => ?_) (fun hb4 => ?_)
    · replace h := bif_t h hb4
      refine Cod.seq ?_
      refine Cod.region [] mixed (by kernel_rfl) ?_
      refine Chain.cons (StepOK.fieldAddr .none fd23_3 hfd23_3 (.tmp rfl (fun _ => trivial))) rfl ?_
      refine Chain.cons (StepOK.load .none ty3 (.tmp rfl (fun _ => trivial))) rfl ?_
      refine Chain.cons (StepOK.assign .none (.tmp rfl (fun _ => trivial))) rfl ?_
      refine Chain.nil ?_
      refine Ends.then ?_
      refine Cod.ret ?_
      refine Ends.blkRet ?_
      refine Ends.thenRet ?_
      obtain rfl := some_eq h
      exact Ends.ret1 (.inl rfl) Tryd.results72 (ResOK.tmp rfl trivial Imp.refl)
    · replace h := bif_f h hb4
      refine Cod.skip ?_
      refine Ends.blkNormal ?_
      refine Ends.then ?_
      refine Cod.seq ?_
      refine Cod.region [] mixed (by kernel_rfl) ?_
      refine Chain.cons (StepOK.fieldAddr .none fd23_2 hfd23_2 (.tmp rfl (fun _ => trivial))) rfl ?_
      refine Chain.cons (StepOK.load .none ty3 (.tmp rfl (fun _ => trivial))) rfl ?_
      refine Chain.cons (StepOK.assign .none (.tmp rfl (fun _ => trivial))) rfl ?_
      refine Chain.nil ?_
      refine Ends.then ?_
      refine Cod.ret ?_
      obtain rfl := some_eq h
      exact Ends.ret1 (.inl rfl) Tryd.results72 (ResOK.tmp rfl trivial Imp.refl)

theorem shape_measure_ok {f1 : Font} {s1 : Str} {r : Int}  (h : shape_measure f1 s1 = some r) : FSpec Tryd.prog 44 [rep f1, rep s1] (rep r) := by
  unfold shape_measure at h
  refine FSpec.intro (n := 19) fnok44 Tryd.func44 rfl Tryd.ntmps44 rfl (fun F => ?_)
  refine Cod.seq ?_
  refine Cod.region [] mixed (by kernel_rfl) ?_
  refine Chain.cons (StepOK.box .none (.tmp rfl (fun _ => trivial))) rfl ?_
  refine Chain.cons (StepOK.assign .none (.int (by decide))) rfl ?_
  refine Chain.nil ?_
  refine Ends.then ?_
  refine Cod.seq ?_
  refine Cod.region [] mixed (by kernel_rfl) ?_
  refine Chain.cons (StepOK.assign .none (.int (by decide))) rfl ?_
  refine Chain.nil ?_
  refine Ends.then ?_
  refine Cod.seq ?_
  refine Cod.seq ?_
  refine Cod.region [([], []), ([], [9])] mixed (by kernel_rfl) ?_
  refine Chain.consA (StepOK.move .none (.tmp rfl (fun _ => trivial))) rfl ?_
  refine Chain.consW (StepOK.rangeStr Tryd.underlying9 rfl (.tmp rfl (fun _ => trivial))) rfl rfl ?_
  refine Chain.nil ?_
  refine Ends.then ?_
  refine Cod.nameAt (t := 9) (g := 5001) rfl rfl isBox_iter rfl (fun m5001 => ?_)
  obtain ⟨j_1, h, hK1⟩ := bind_some h
  refine Cod.thenJ (ι := Int) (fun j_1 => [(5, ⟨True, rep j_1⟩)]) (fun j_1 => []) (fun s => j_1 = s) Sub.nil SubB.nil ?_ (fun j_1' hj1 => ?_)
  · skip
    refine Cod.block ?_
    refine Cod.loopL h (fun s2_ => [(5, ⟨True, rep s2_.1⟩)]) (fun s2_ => [(5001, some (CPred.at (ptr m5001 0) (iterV s1 s2_.2)))]) (.cons (t := 5) rfl Sub.nil) (.cons (t := 5001) rfl SubB.nil) (.cons (t := 2) rfl (.cons (t := 9) rfl Sub.nil)) SubB.nil (fun s2_ o_2 h hD2 => ?_)
    unfold shape_measure_L1 at h
    refine Cod.seq ?_
    refine Cod.region [([5001], [5001]), ([], [])] mixed (by kernel_rfl) ?_
    refine Chain.consW (StepOK.nextStr (k := 5001) rfl rfl (.tmp rfl (fun _ => trivial)) (by decide)) rfl rfl ?_
    refine Chain.consA (StepOK.nextOk .none (.tmp rfl (fun _ => trivial))) rfl ?_
    refine Chain.nil ?_
    refine Ends.then ?_
    obtain ⟨at1, hv3, h⟩ := bnd_some h
    refine Cod.reB (t := 5001) rfl (congrArg (fun y => CPred.at (ptr m5001 0) (iterV s1 y)) hv3) ?_
    refine Cod.seq ?_
    refine Cod.cond (t := 11) rfl trivial (fun hb4 => ?_) (fun hb4 => ?_)
    · replace h := bif_t h hb4
      refine Cod.skip ?_
      refine Ends.then ?_
      refine Cod.block ?_
      refine Cod.seq ?_
      refine Cod.region [] mixed (by kernel_rfl) ?_
      obtain ⟨hn5, h⟩ := need_some h
      refine Chain.cons (StepOK.nextRune .none (.tmp rfl (fun _ => trivial)) (fun _ => hn5)) rfl ?_
      refine Chain.cons (StepOK.assign .none (.tmp rfl (fun _ => trivial))) rfl ?_
      refine Chain.nil ?_
      refine Ends.then ?_
      refine Cod.region [] mixed (by kernel_rfl) ?_
      refine Chain.cons (StepOK.move .none (.tmp rfl (fun _ => trivial))) rfl ?_
      refine Chain.cons (StepOK.load .none ty23 (.tmp rfl (fun _ => trivial))) rfl ?_
      refine Chain.cons (StepOK.move .none (.tmp rfl (fun _ => trivial))) rfl ?_
      obtain ⟨r1, hv6, h⟩ := bind_some h
      refine Chain.cons (StepOK.call .none (shape_letter_ok hv6) (.cons (.tmp rfl (fun _ => trivial)) (.cons (.tmp rfl (fun _ => trivial)) .nil))) rfl ?_
      refine Chain.cons (StepOK.addW .none (.tmp rfl (fun _ => trivial)) (.tmp rfl (fun _ => trivial))) rfl ?_
      obtain ⟨n1, hv7, h⟩ := bnd_some h
      refine Chain.cons (StepOK.re hv7 (StepOK.assign .none (.tmp rfl (fun _ => trivial)))) rfl ?_
      refine Chain.nil ?_
      refine Ends.blkNormal ?_
      exact Ends.againL (some_eq h) (.cons (t := 5) rfl (.cons (t := 2) rfl (.cons (t := 9) rfl Sub.nil))) (.cons (t := 5001) rfl SubB.nil)
    · replace h := bif_f h hb4
      refine Cod.exit ?_
      refine Ends.thenExit ?_
      refine Ends.thenExit ?_
      refine Ends.blkExit ?_
      replace h := hD2 _ (some_eq h)
      exact Ends.join _ (some_eq h) (.cons (t := 5) rfl Sub.nil) SubB.nil
  · subst hj1; have h := hK1; clear hK1
    refine Cod.seq ?_
    refine Cod.region [] mixed (by kernel_rfl) ?_
    refine Chain.cons (StepOK.move .none (.tmp rfl (fun _ => trivial))) rfl ?_
    refine Chain.cons (StepOK.assign .none (.tmp rfl (fun _ => trivial))) rfl ?_
    refine Chain.nil ?_
    refine Ends.then ?_
    refine Cod.ret ?_
    obtain rfl := some_eq h
    exact Ends.ret1 (.inl rfl) Tryd.results44 (ResOK.tmp rfl trivial Imp.refl)

theorem shape_widest_ok {f1 : Font} {lines1 : (List Str)} {r : Int}  (h : shape_widest f1 lines1 = some r) : FSpec Tryd.prog 52 [rep f1, rep lines1] (rep r) := by
  unfold shape_widest at h
  refine FSpec.intro (n := 21) fnok52 Tryd.func52 rfl Tryd.ntmps52 rfl (fun F => ?_)
  refine Cod.seq ?_
  refine Cod.region [] mixed (by kernel_rfl) ?_
  refine Chain.cons (StepOK.box .none (.tmp rfl (fun _ => trivial))) rfl ?_
  refine Chain.cons (StepOK.assign .none (.int (by decide))) rfl ?_
  refine Chain.nil ?_
  refine Ends.then ?_
  refine Cod.seq ?_
  refine Cod.region [] mixed (by kernel_rfl) ?_
  refine Chain.cons (StepOK.assign .none (.int (by decide))) rfl ?_
  refine Chain.nil ?_
  refine Ends.then ?_
  refine Cod.seq ?_
  refine Cod.seq ?_
  refine Cod.region [] mixed (by kernel_rfl) ?_
  refine Chain.cons (StepOK.move .none (.tmp rfl (fun _ => trivial))) rfl ?_
  refine Chain.cons (StepOK.len .none sl30 (.tmp rfl (fun _ => trivial))) rfl ?_
  refine Chain.cons (StepOK.move .none (.int (by decide))) rfl ?_
  refine Chain.nil ?_
  refine Ends.then ?_
  obtain ⟨j_1, h, hK1⟩ := bind_some h
  refine Cod.thenJ (ι := Int) (fun j_1 => [(5, ⟨True, rep j_1⟩)]) (fun j_1 => []) (fun s => j_1 = s) Sub.nil SubB.nil ?_ (fun j_1' hj1 => ?_)
  · skip
    refine Cod.block ?_
    refine Cod.rforL h (fun p2_ => [(10, ⟨True, rep p2_.1⟩), (5, ⟨True, rep p2_.2⟩)]) (fun p2_ => []) (.cons (t := 10) rfl (.cons (t := 5) rfl Sub.nil)) SubB.nil (.cons (t := 2) rfl (.cons (t := 8) rfl (.cons (t := 9) rfl Sub.nil))) SubB.nil (fun p2_ o_2 h hD2 => ?_)
    refine Cod.seq ?_
    refine Cod.region [] mixed (by kernel_rfl) ?_
    refine Chain.cons (StepOK.lt .none (.tmp rfl (fun _ => trivial)) (.tmp rfl (fun _ => trivial))) rfl ?_
    refine Chain.nil ?_
    refine Ends.then ?_
    refine Cod.seq ?_
    refine Cod.cond (t := 11) rfl trivial (fun hb3 => ?_) (fun hb3 => ?_)
    · replace h := bif_t h hb3
      refine Cod.skip ?_
      refine Ends.then ?_
      refine Cod.seq ?_
      obtain ⟨j_4, h, hK4⟩ := bind_some h
      unfold shape_widest_L1 at h
      refine Cod.thenJ (ι := Int) (fun j_4 => [(5, ⟨True, rep j_4⟩)]) (fun j_4 => []) (fun s => j_4 = s) (.cons (t := 2) rfl (.cons (t := 8) rfl (.cons (t := 9) rfl (.cons (t := 10) rfl Sub.nil)))) SubB.nil ?_ (fun j_4' hj4 => ?_)
      · skip
        refine Cod.block ?_
        refine Cod.seq ?_
        refine Cod.region [] mixed (by kernel_rfl) ?_
        obtain ⟨hn5, h⟩ := need_some h
        refine Chain.cons (StepOK.indexAddr .none sl30 ty9 (.tmp rfl (fun _ => trivial)) (.tmp rfl (fun _ => trivial)) (fun _ => hn5)) rfl ?_
        refine Chain.cons (StepOK.load .none ty9 (.tmp rfl (fun _ => trivial))) rfl ?_
        refine Chain.cons (StepOK.assign .none (.tmp rfl (fun _ => trivial))) rfl ?_
        refine Chain.nil ?_
        refine Ends.then ?_
        refine Cod.region [] mixed (by kernel_rfl) ?_
        refine Chain.cons (StepOK.move .none (.tmp rfl (fun _ => trivial))) rfl ?_
        refine Chain.cons (StepOK.load .none ty23 (.tmp rfl (fun _ => trivial))) rfl ?_
        refine Chain.cons (StepOK.move .none (.tmp rfl (fun _ => trivial))) rfl ?_
        obtain ⟨r1, hv6, h⟩ := bind_some h
        refine Chain.cons (StepOK.call .none (shape_measure_ok hv6) (.cons (.tmp rfl (fun _ => trivial)) (.cons (.tmp rfl (fun _ => trivial)) .nil))) rfl ?_
        refine Chain.cons (StepOK.max2 .none (.tmp rfl (fun _ => trivial)) (.tmp rfl (fun _ => trivial))) rfl ?_
        obtain ⟨n1, hv7, h⟩ := bnd_some h
        refine Chain.cons (StepOK.re hv7 (StepOK.assign .none (.tmp rfl (fun _ => trivial)))) rfl ?_
        refine Chain.nil ?_
        refine Ends.blkNormal ?_
        exact Ends.join _ (some_eq h) (.cons (t := 5) rfl (.cons (t := 2) rfl (.cons (t := 8) rfl (.cons (t := 9) rfl (.cons (t := 10) rfl Sub.nil))))) SubB.nil
      · subst hj4; have h := hK4; clear hK4
        refine Cod.region [] mixed (by kernel_rfl) ?_
        refine Chain.cons (StepOK.addW .none (.tmp rfl (fun _ => trivial)) (.int (by decide))) rfl ?_
        refine Chain.cons (StepOK.move .none (.tmp rfl (fun _ => trivial))) rfl ?_
        refine Chain.nil ?_
        exact Ends.againL (some_eq h) (.cons (t := 10) rfl (.cons (t := 5) rfl (.cons (t := 2) rfl (.cons (t := 8) rfl (.cons (t := 9) rfl Sub.nil))))) SubB.nil
    · replace h := bif_f h hb3
      refine Cod.exit ?_
      refine Ends.thenExit ?_
      refine Ends.thenExit ?_
      refine Ends.blkExit ?_
      replace h := hD2 _ (some_eq h)
      exact Ends.join _ (some_eq h) (.cons (t := 5) rfl Sub.nil) SubB.nil
  · subst hj1; have h := hK1; clear hK1
    refine Cod.seq ?_
    refine Cod.region [] mixed (by kernel_rfl) ?_
    refine Chain.cons (StepOK.move .none (.tmp rfl (fun _ => trivial))) rfl ?_
    refine Chain.cons (StepOK.assign .none (.tmp rfl (fun _ => trivial))) rfl ?_
    refine Chain.nil ?_
    refine Ends.then ?_
    refine Cod.ret ?_
    obtain rfl := some_eq h
    exact Ends.ret1 (.inl rfl) Tryd.results52 (ResOK.tmp rfl trivial Imp.refl)

theorem shape_wrapPart_1_ok {c0_1 : Str} {c1_1 : (List Str)} {c2_1 : Int} {r : (Str × (List Str) × Int)} {m9 : Nat} {m10 : Nat} {s11 : Value} {m12 : Nat} (h : shape_wrapPart_1 c0_1 c1_1 c2_1 = some r) : FSpecO Tryd.prog 87 [isV (ptr m9 0), isV (ptr m10 0), isV (ptr m12 0)] [(ptr m9 0, cont 9 c0_1), (ptr m10 0, cont 30 (⟨s11⟩ : Raw)), (s11, rowV 9 c1_1), (ptr m12 0, cont 3 c2_1)] (anyV) [some (cont 9 r.1), some (deep (fun z0 => cont 30 (⟨z0⟩ : Raw)) (rowV 9 r.2.1)), none, some (cont 3 r.2.2)] := by
  unfold shape_wrapPart_1 at h
  refine FSpecO.intro (n := 9) fnok87 Tryd.func87 rfl Tryd.ntmps87 rfl (fun F => ?_)
  refine Cod.seq ?_
  refine Cod.seq ?_
  refine Cod.region [([9], []), ([], [])] mixed (by kernel_rfl) ?_
  refine Chain.consA (StepOK.loadAt0 (k := 9) .none ty9 rfl (.tmp rfl (fun _ => trivial))) rfl ?_
  refine Chain.consA (StepOK.neS .none (eqAt_str Tryd.underlying9) (.tmp rfl (fun _ => trivial)) (.str (l := []) (by decide))) rfl ?_
  refine Chain.nil ?_
  refine Ends.then ?_
  obtain ⟨j_1, h, hK1⟩ := bind_some h
  refine Cod.thenJ (ι := (List Str)) (fun j_1 => []) (fun j_1 => [(10, some (CPred.at (ptr m10 0) (deep (fun z0 => cont 30 (⟨z0⟩ : Raw)) (rowV 9 j_1))))]) (fun s => j_1 = s) (.cons (t := 0) rfl (.cons (t := 2) rfl Sub.nil)) (.cons (t := 9) rfl (.cons (t := 12) rfl SubB.nil)) ?_ (fun j_1' hj1 => ?_)
  · skip
    refine Cod.cond (t := 4) rfl trivial (fun hb2 => ?_) (fun hb2 => ?_)
    · replace h := bif_t h hb2
      refine Cod.region [([10], []), ([9], []), ([], []), ([11], [8, 11]), ([10, 8], [10, 8])] mixed (by kernel_rfl) ?_
      refine Chain.consA (StepOK.loadAt0 (k := 10) .none tr30 rfl (.tmp rfl (fun _ => trivial))) rfl ?_
      refine Chain.consA (StepOK.loadAt0 (k := 9) .none ty9 rfl (.tmp rfl (fun _ => trivial))) rfl ?_
      refine Chain.consA (StepOK.buildSlice (xs := [_]) .none sl30 ty9 hz9 (.cons (.tmp rfl (fun _ => trivial)) .nil) rfl (by decide)) rfl ?_
      obtain ⟨hn3, h⟩ := need_some h
      refine Chain.consW (StepOK.append (k := 11) rk30 rfl (.told (.tmp rfl (fun _ => trivial)) rfl) (.tmp rfl (fun _ => trivial)) hn3) rfl rfl ?_
      refine Chain.consN (StepOK.storeRow (k := 10) (t := 8) (set := fun _ z => z) ty30 rfl (.tmp rfl (fun _ => trivial)) .self rfl rfl) rfl ?_
      refine Chain.nil ?_
      exact Ends.join _ (some_eq h) (.cons (t := 0) rfl (.cons (t := 2) rfl Sub.nil)) (.cons (t := 10) rfl (.cons (t := 9) rfl (.cons (t := 12) rfl SubB.nil)))
    · replace h := bif_f h hb2
      refine Cod.skip ?_
      refine Ends.close (k := 10) (g := 11) (fun z => cont 30 (⟨z⟩ : Raw)) rfl rfl rfl ?_
      exact Ends.join _ (some_eq h) (.cons (t := 0) rfl (.cons (t := 2) rfl Sub.nil)) (.cons (t := 10) rfl (.cons (t := 9) rfl (.cons (t := 12) rfl SubB.nil)))
  · subst hj1; have h := hK1; clear hK1
    refine Cod.open (k := 10) (g := 5001) rfl rfl (fun s5001 => ?_)
    refine Cod.region [([9], [9]), ([12], [12])] mixed (by kernel_rfl) ?_
    refine Chain.consN (StepOK.storeAt0 (g := 9) ty9 rfl (.tmp rfl (fun _ => trivial)) (.str (l := []) (by decide))) rfl ?_
    refine Chain.consN (StepOK.storeAt0 (g := 12) ty3 rfl (.tmp rfl (fun _ => trivial)) (.int (by decide))) rfl ?_
    refine Chain.nil ?_
    refine Ends.close (k := 10) (g := 5001) (fun z => cont 30 (⟨z⟩ : Raw)) rfl rfl rfl ?_
    obtain rfl := some_eq h
    exact Ends.ret0O (.inr rfl) [9, 10, 11, 12] Tryd.results87 (by decide) (.held rfl (.held rfl (.skip (.held rfl .nil)))) 

theorem shape_cut_ok {f1 : Font} {word1 : Str} {width1 : Int} {r : (Str × Str)}  (h : shape_cut f1 word1 width1 = some r) : FSpec Tryd.prog 88 [rep f1, rep word1, rep width1] (tup [rep r.1, rep r.2]) := by
  unfold shape_cut at h
  refine FSpec.intro (n := 36) fnok88 Tryd.func88 rfl Tryd.ntmps88 rfl (fun F => ?_)
  refine Cod.seq ?_
  refine Cod.region [] mixed (by kernel_rfl) ?_
  refine Chain.cons (StepOK.box .none (.tmp rfl (fun _ => trivial))) rfl ?_
  refine Chain.cons (StepOK.assign .none (.str (l := []) (by decide))) rfl ?_
  refine Chain.cons (StepOK.assign .none (.str (l := []) (by decide))) rfl ?_
  refine Chain.nil ?_
  refine Ends.then ?_
  refine Cod.seq ?_
  refine Cod.region [] mixed (by kernel_rfl) ?_
  refine Chain.cons (StepOK.assign .none (.int (by decide))) rfl ?_
  refine Chain.nil ?_
  refine Ends.then ?_
  refine Cod.seq ?_
  refine Cod.seq ?_
  refine Cod.region [([], []), ([], [12])] mixed (by kernel_rfl) ?_
  refine Chain.consA (StepOK.move .none (.tmp rfl (fun _ => trivial))) rfl ?_
  refine Chain.consW (StepOK.rangeStr Tryd.underlying9 rfl (.tmp rfl (fun _ => trivial))) rfl rfl ?_
  refine Chain.nil ?_
  refine Ends.then ?_
  refine Cod.nameAt (t := 12) (g := 5001) rfl rfl isBox_iter rfl (fun m5001 => ?_)
  obtain ⟨o_1, h, hK1⟩ := bindR_some h
  refine Cod.thenJ (ι := Unit) (fun j_1 => []) (fun j_1 => []) (fun s => o_1 = Res.nx s) (.cons (t := 1) rfl Sub.nil) SubB.nil ?_ (fun j_1 hj1 => ?_)
  · skip
    refine Cod.block ?_
    refine Cod.loopL h (fun s2_ => [(8, ⟨True, rep s2_.1⟩)]) (fun s2_ => [(5001, some (CPred.at (ptr m5001 0) (iterV word1 s2_.2)))]) (.cons (t := 8) rfl Sub.nil) (.cons (t := 5001) rfl SubB.nil) (.cons (t := 1) rfl (.cons (t := 2) rfl (.cons (t := 3) rfl (.cons (t := 12) rfl Sub.nil)))) SubB.nil (fun s2_ o_2 h hD2 => ?_)
    unfold shape_cut_L1 at h
    refine Cod.seq ?_
    refine Cod.region [([5001], [5001]), ([], [])] mixed (by kernel_rfl) ?_
    refine Chain.consW (StepOK.nextStr (k := 5001) rfl rfl (.tmp rfl (fun _ => trivial)) (by decide)) rfl rfl ?_
    refine Chain.consA (StepOK.nextOk .none (.tmp rfl (fun _ => trivial))) rfl ?_
    refine Chain.nil ?_
    refine Ends.then ?_
    obtain ⟨at1, hv3, h⟩ := bnd_some h
    refine Cod.reB (t := 5001) rfl (congrArg (fun y => CPred.at (ptr m5001 0) (iterV word1 y)) hv3) ?_
    refine Cod.seq ?_
    refine Cod.cond (t := 14) rfl trivial (fun hb4 => ?_) (fun hb4 => ?_)
    · replace h := bif_t h hb4
      refine Cod.skip ?_
      refine Ends.then ?_
      refine Cod.block ?_
      refine Cod.seq ?_
      refine Cod.region [] mixed (by kernel_rfl) ?_
      obtain ⟨hn5, h⟩ := need_some h
      refine Chain.cons (StepOK.nextAt .none (.tmp rfl (fun _ => trivial)) (fun _ => hn5)) rfl ?_
      obtain ⟨hn6, h⟩ := need_some h
      refine Chain.cons (StepOK.nextRune .none (.tmp rfl (fun _ => trivial)) (fun _ => hn6)) rfl ?_
      obtain ⟨i1, hv7, h⟩ := bnd_some h
      refine Chain.cons (StepOK.re hv7 (StepOK.assign .none (.tmp rfl (fun _ => trivial)))) rfl ?_
      refine Chain.cons (StepOK.assign .none (.tmp rfl (fun _ => trivial))) rfl ?_
      refine Chain.nil ?_
      refine Ends.then ?_
      refine Cod.seq ?_
      refine Cod.region [] mixed (by kernel_rfl) ?_
      refine Chain.cons (StepOK.move .none (.tmp rfl (fun _ => trivial))) rfl ?_
      refine Chain.cons (StepOK.load .none ty23 (.tmp rfl (fun _ => trivial))) rfl ?_
      refine Chain.cons (StepOK.move .none (.tmp rfl (fun _ => trivial))) rfl ?_
      obtain ⟨r1, hv8, h⟩ := bind_some h
      refine Chain.cons (StepOK.call .none (shape_letter_ok hv8) (.cons (.tmp rfl (fun _ => trivial)) (.cons (.tmp rfl (fun _ => trivial)) .nil))) rfl ?_
      refine Chain.cons (StepOK.addW .none (.tmp rfl (fun _ => trivial)) (.tmp rfl (fun _ => trivial))) rfl ?_
      obtain ⟨wide1, hv9, h⟩ := bnd_some h
      refine Chain.cons (StepOK.re hv9 (StepOK.assign .none (.tmp rfl (fun _ => trivial)))) rfl ?_
      refine Chain.nil ?_
      refine Ends.then ?_
      refine Cod.seq ?_
      refine Cod.region [] mixed (by kernel_rfl) ?_
      refine Chain.cons (StepOK.move .none (.tmp rfl (fun _ => trivial))) rfl ?_
      refine Chain.cons (StepOK.gt .none (.tmp rfl (fun _ => trivial)) (.int (by decide))) rfl ?_
      refine Chain.cons (StepOK.move .none (.tmp rfl (fun _ => trivial))) rfl ?_
      refine Chain.cons (StepOK.move (.at rfl rfl) (.tmp rfl (fun _ => trivial))) rfl ?_
      refine Chain.cons (StepOK.move (.at rfl rfl) (.tmp rfl (fun _ => trivial))) rfl ?_
      refine Chain.cons (StepOK.gt (.at rfl rfl) (.tmp rfl id) (.tmp rfl id)) rfl ?_
      refine Chain.cons (StepOK.pickAnd .none (.tmp rfl (fun _ => trivial)) (.tmp rfl id)) rfl ?_
      refine Chain.nil ?_
      refine Ends.then ?_
      refine Cod.cond (t := 28) rfl trivial (fun hb10 => ?_) (fun hb10 => ?_)
      · replace h := bif_t h hb10
        refine Cod.seq ?_
        refine Cod.region [] mixed (by kernel_rfl) ?_
        refine Chain.cons (StepOK.move .none (.tmp rfl (fun _ => trivial))) rfl ?_
        refine Chain.cons (StepOK.move .none (.tmp rfl (fun _ => trivial))) rfl ?_
        obtain ⟨hn11, h⟩ := need_some h
        refine Chain.cons (StepOK.sliceStr .none Tryd.underlying9 (.tmp rfl (fun _ => trivial)) rfl (.tmp rfl (fun _ => trivial)) (fun _ => hn11)) rfl ?_
        refine Chain.cons (StepOK.move .none (.tmp rfl (fun _ => trivial))) rfl ?_
        refine Chain.cons (StepOK.move .none (.tmp rfl (fun _ => trivial))) rfl ?_
        obtain ⟨hn12, h⟩ := need_some h
        refine Chain.cons (StepOK.sliceStr .none Tryd.underlying9 (.tmp rfl (fun _ => trivial)) (.tmp rfl (fun _ => trivial)) rfl (fun _ => hn12)) rfl ?_
        refine Chain.cons (StepOK.assign .none (.tmp rfl (fun _ => trivial))) rfl ?_
        refine Chain.cons (StepOK.assign .none (.tmp rfl (fun _ => trivial))) rfl ?_
        refine Chain.nil ?_
        refine Ends.then ?_
        refine Cod.ret ?_
        refine Ends.blkRet ?_
        refine Ends.thenRet ?_
        refine Ends.blkRet ?_
        refine Ends.thenRet ?_
        replace h := hD2 _ (some_eq h)
        replace h := resb_ab hK1 (some_eq h)
        obtain rfl := some_eq h
        exact Ends.ret2 (.inl rfl) Tryd.results88 (ResOK.tmp rfl trivial Imp.refl) (ResOK.tmp rfl trivial Imp.refl)
      · replace h := bif_f h hb10
        refine Cod.skip ?_
        refine Ends.blkNormal ?_
        exact Ends.againL (some_eq h) (.cons (t := 8) rfl (.cons (t := 1) rfl (.cons (t := 2) rfl (.cons (t := 3) rfl (.cons (t := 12) rfl Sub.nil))))) (.cons (t := 5001) rfl SubB.nil)
    · replace h := bif_f h hb4
      refine Cod.exit ?_
      refine Ends.thenExit ?_
      refine Ends.thenExit ?_
      refine Ends.blkExit ?_
      replace h := hD2 _ (some_eq h)
      exact Ends.join _ (some_eq h) (.cons (t := 1) rfl Sub.nil) SubB.nil
  · have h := resb_nx hK1 hj1
    refine Cod.seq ?_
    refine Cod.region [] mixed (by kernel_rfl) ?_
    refine Chain.cons (StepOK.move .none (.tmp rfl (fun _ => trivial))) rfl ?_
    refine Chain.cons (StepOK.assign .none (.tmp rfl (fun _ => trivial))) rfl ?_
    refine Chain.cons (StepOK.assign .none (.str (l := []) (by decide))) rfl ?_
    refine Chain.nil ?_
    refine Ends.then ?_
    refine Cod.ret ?_
    obtain rfl := some_eq h
    exact Ends.ret2 (.inl rfl) Tryd.results88 (ResOK.tmp rfl trivial Imp.refl) (ResOK.tmp rfl trivial Imp.refl)

theorem shape_wrapPart_ok {f1 : Font} {part1 : Str} {width1 : Int} {r : (List Str)}  (h : shape_wrapPart f1 part1 width1 = some r) : FSpec Tryd.prog 73 [rep f1, rep part1, rep width1] (rep r) := by
  unfold shape_wrapPart at h
  refine FSpec.intro (n := 97) fnok73 Tryd.func73 rfl Tryd.ntmps73 rfl (fun F => ?_)
  refine Cod.seq ?_
  refine Cod.region [] mixed (by kernel_rfl) ?_
  refine Chain.cons (StepOK.box .none (.tmp rfl (fun _ => trivial))) rfl ?_
  refine Chain.cons (StepOK.assign .none (.const (x := ([] : (List Str))) (fun M w => ⟨_, ⟨none, 0, rfl, Nat.le_refl _, by decide, rfl⟩, rfl⟩))) rfl ?_
  refine Chain.nil ?_
  refine Ends.then ?_
  refine Cod.seq ?_
  refine Cod.region [([], [7])] mixed (by kernel_rfl) ?_
  refine Chain.consW (StepOK.alloc zr30 rfl) rfl rfl ?_
  refine Chain.nil ?_
  refine Ends.then ?_
  refine Cod.nameAt (t := 7) (g := 5001) rfl rfl isBox_cont rfl (fun m5001 => ?_)
  refine Cod.nilKey (g := 5002) (T := 9) (α := Str) rfl ?_
  refine Cod.seq ?_
  refine Cod.region [([], [8]), ([], [9]), ([8], [8]), ([9], [9])] mixed (by kernel_rfl) ?_
  refine Chain.consW (StepOK.alloc zo9 rfl) rfl rfl ?_
  refine Chain.consW (StepOK.alloc zo3 rfl) rfl rfl ?_
  refine Chain.consN (StepOK.store ty9 rfl rfl (.str (l := []) (by decide))) rfl ?_
  refine Chain.consN (StepOK.store ty3 rfl rfl (.int (by decide))) rfl ?_
  refine Chain.nil ?_
  refine Ends.then ?_
  refine Cod.nameBox (t := 8) (g := 5003) rfl rfl (fun m5003 => ?_)
  refine Cod.nameBox (t := 9) (g := 5004) rfl rfl (fun m5004 => ?_)
  refine Cod.seq ?_
  refine Cod.region [] mixed (by kernel_rfl) ?_
  refine Chain.cons (StepOK.makeFuncC (Cs := [isV (ptr m5003 0), isV (ptr m5001 0), isV (ptr m5004 0)]) .none (.cons (.tmp rfl (fun _ => trivial)) (.cons (.tmp rfl (fun _ => trivial)) (.cons (.tmp rfl (fun _ => trivial)) .nil)))) rfl ?_
  refine Chain.cons (StepOK.assign .none (.tmp rfl (fun _ => trivial))) rfl ?_
  refine Chain.nil ?_
  refine Ends.then ?_
  refine Cod.seq ?_
  refine Cod.region [] mixed (by kernel_rfl) ?_
  refine Chain.cons (StepOK.move .none (.tmp rfl (fun _ => trivial))) rfl ?_
  obtain ⟨words1, hv1, h⟩ := bind_some h
  refine Chain.cons (StepOK.call .none (shape_wordsOf_ok hv1) (.cons (.tmp rfl (fun _ => trivial)) .nil)) rfl ?_
  refine Chain.cons (StepOK.assign .none (.tmp rfl (fun _ => trivial))) rfl ?_
  refine Chain.nil ?_
  refine Ends.then ?_
  refine Cod.seq ?_
  refine Cod.seq ?_
  refine Cod.region [] mixed (by kernel_rfl) ?_
  refine Chain.cons (StepOK.move .none (.tmp rfl (fun _ => trivial))) rfl ?_
  refine Chain.cons (StepOK.len .none sl30 (.tmp rfl (fun _ => trivial))) rfl ?_
  refine Chain.cons (StepOK.move .none (.int (by decide))) rfl ?_
  refine Chain.nil ?_
  refine Ends.then ?_
  obtain ⟨j_2, h, hK2⟩ := bind_some h
  refine Cod.thenJ (ι := ((List Str) × Str × Int)) (fun j_2 => []) (fun j_2 => [(5001, some (CPred.at (ptr m5001 0) (deep (fun z0 => cont 30 (⟨z0⟩ : Raw)) (rowV 9 j_2.1)))), (5003, some (boxAt m5003 9 j_2.2.1)), (5004, some (boxAt m5004 3 j_2.2.2))]) (fun s => j_2 = s) (.cons (t := 7) rfl (.cons (t := 8) rfl (.cons (t := 9) rfl (.cons (t := 10) rfl (.cons (t := 11) rfl Sub.nil))))) SubB.nil ?_ (fun j_2' hj2 => ?_)
  · skip
    refine Cod.block ?_
    refine Cod.close (k := 5001) (g := 5002) (fun z => cont 30 (⟨z⟩ : Raw)) rfl rfl rfl ?_
    refine Cod.rforL h (fun p3_ => [(22, ⟨True, rep p3_.1⟩)]) (fun p3_ => [(5001, some (CPred.at (ptr m5001 0) (deep (fun z0 => cont 30 (⟨z0⟩ : Raw)) (rowV 9 p3_.2.1)))), (5003, some (boxAt m5003 9 p3_.2.2.1)), (5004, some (boxAt m5004 3 p3_.2.2.2))]) (.cons (t := 22) rfl Sub.nil) (.cons (t := 5001) rfl (.cons (t := 5003) rfl (.cons (t := 5004) rfl SubB.nil))) (.cons (t := 2) rfl (.cons (t := 3) rfl (.cons (t := 7) rfl (.cons (t := 8) rfl (.cons (t := 9) rfl (.cons (t := 10) rfl (.cons (t := 11) rfl (.cons (t := 20) rfl (.cons (t := 21) rfl Sub.nil))))))))) SubB.nil (fun p3_ o_3 h hD3 => ?_)
    refine Cod.open (k := 5001) (g := 5005) rfl rfl (fun s5005 => ?_)
    refine Cod.seq ?_
    refine Cod.region [] mixed (by kernel_rfl) ?_
    refine Chain.cons (StepOK.lt .none (.tmp rfl (fun _ => trivial)) (.tmp rfl (fun _ => trivial))) rfl ?_
    refine Chain.nil ?_
    refine Ends.then ?_
    refine Cod.seq ?_
    refine Cod.cond (t := 23) rfl trivial (fun hb4 => ?_) (fun hb4 => ?_)
    · replace h := bif_t h hb4
      refine Cod.skip ?_
      refine Ends.then ?_
      refine Cod.seq ?_
      obtain ⟨j_5, h, hK5⟩ := bind_some h
      unfold shape_wrapPart_L1 at h
      refine Cod.thenJ (ι := ((List Str) × Str × Int)) (fun j_5 => []) (fun j_5 => [(5001, some (CPred.at (ptr m5001 0) (deep (fun z0 => cont 30 (⟨z0⟩ : Raw)) (rowV 9 j_5.1)))), (5003, some (boxAt m5003 9 j_5.2.1)), (5004, some (boxAt m5004 3 j_5.2.2))]) (fun s => j_5 = s) (.cons (t := 2) rfl (.cons (t := 3) rfl (.cons (t := 7) rfl (.cons (t := 8) rfl (.cons (t := 9) rfl (.cons (t := 10) rfl (.cons (t := 11) rfl (.cons (t := 20) rfl (.cons (t := 21) rfl (.cons (t := 22) rfl Sub.nil)))))))))) SubB.nil ?_ (fun j_5' hj5 => ?_)
      · skip
        refine Cod.block ?_
        refine Cod.seq ?_
        refine Cod.region [] mixed (by kernel_rfl) ?_
        obtain ⟨hn6, h⟩ := need_some h
        refine Chain.cons (StepOK.indexAddr .none sl30 ty9 (.tmp rfl (fun _ => trivial)) (.tmp rfl (fun _ => trivial)) (fun _ => hn6)) rfl ?_
        refine Chain.cons (StepOK.load .none ty9 (.tmp rfl (fun _ => trivial))) rfl ?_
        obtain ⟨w1, hv7, h⟩ := bnd_some h
        refine Chain.cons (StepOK.re hv7 (StepOK.assign .none (.tmp rfl (fun _ => trivial)))) rfl ?_
        refine Chain.nil ?_
        refine Ends.then ?_
        refine Cod.seq ?_
        refine Cod.region [] mixed (by kernel_rfl) ?_
        refine Chain.cons (StepOK.load .none ty23 (.tmp rfl (fun _ => trivial))) rfl ?_
        refine Chain.cons (StepOK.move .none (.tmp rfl (fun _ => trivial))) rfl ?_
        obtain ⟨n1, hv8, h⟩ := bind_some h
        refine Chain.cons (StepOK.call .none (shape_measure_ok hv8) (.cons (.tmp rfl (fun _ => trivial)) (.cons (.tmp rfl (fun _ => trivial)) .nil))) rfl ?_
        refine Chain.cons (StepOK.assign .none (.tmp rfl (fun _ => trivial))) rfl ?_
        refine Chain.nil ?_
        refine Ends.then ?_
        refine Cod.seq ?_
        refine Cod.seq ?_
        refine Cod.region [] mixed (by kernel_rfl) ?_
        refine Chain.cons (StepOK.move .none (.tmp rfl (fun _ => trivial))) rfl ?_
        refine Chain.cons (StepOK.move .none (.tmp rfl (fun _ => trivial))) rfl ?_
        refine Chain.cons (StepOK.gt .none (.tmp rfl (fun _ => trivial)) (.tmp rfl (fun _ => trivial))) rfl ?_
        refine Chain.nil ?_
        refine Ends.then ?_
        obtain ⟨o_9, h, hK9⟩ := bindR_some h
        refine Cod.thenJ (ι := Unit) (fun j_9 => []) (fun j_9 => []) (fun s => o_9 = Res.nx s) (.cons (t := 2) rfl (.cons (t := 3) rfl (.cons (t := 7) rfl (.cons (t := 8) rfl (.cons (t := 9) rfl (.cons (t := 10) rfl (.cons (t := 11) rfl (.cons (t := 13) rfl (.cons (t := 14) rfl (.cons (t := 20) rfl (.cons (t := 21) rfl (.cons (t := 22) rfl Sub.nil)))))))))))) (.cons (t := 5001) rfl (.cons (t := 5003) rfl (.cons (t := 5004) rfl (.cons (t := 5005) rfl SubB.nil)))) ?_ (fun j_9 hj9 => ?_)
        · skip
          refine Cod.cond (t := 31) rfl trivial (fun hb10 => ?_) (fun hb10 => ?_)
          · replace h := bif_t h hb10
            refine Cod.seq ?_
            refine Cod.region [([], []), ([5003, 5001, 5005, 5004], [5003, 5001, 5005, 5004])] mixed (by kernel_rfl) ?_
            refine Chain.consA (StepOK.move .none (.tmp rfl (fun _ => trivial))) rfl ?_
            obtain ⟨r1, hv11, h⟩ := bind_some h
            refine Chain.consW (StepOK.callClo [5003, 5001, 5005, 5004] (Ss := []) (Cs := [isV (ptr m5003 0), isV (ptr m5001 0), isV (ptr m5004 0)]) (.tmp rfl (fun _ => trivial)) (shape_wrapPart_1_ok hv11) .nil (.cons (k := 5003) rfl (.cons (k := 5001) rfl (.cons (k := 5005) rfl (.cons (k := 5004) rfl .nil)))) rfl (by decide) (by decide) (by intro d h; cases h; decide)) rfl rfl ?_
            refine Chain.nil ?_
            refine Ends.then ?_
            refine Cod.open (k := 5001) (g := 5006) rfl rfl (fun s5006 => ?_)
            refine Cod.seq ?_
            obtain ⟨j_12, h, hK12⟩ := bind_some h
            refine Cod.thenJ (ι := (Str × Int × (List Str))) (fun j_12 => [(13, ⟨True, rep j_12.1⟩), (14, ⟨True, rep j_12.2.1⟩)]) (fun j_12 => [(5001, some (CPred.at (ptr m5001 0) (deep (fun z0 => cont 30 (⟨z0⟩ : Raw)) (rowV 9 j_12.2.2))))]) (fun s => j_12 = s) (.cons (t := 2) rfl (.cons (t := 3) rfl (.cons (t := 7) rfl (.cons (t := 8) rfl (.cons (t := 9) rfl (.cons (t := 10) rfl (.cons (t := 11) rfl (.cons (t := 20) rfl (.cons (t := 21) rfl (.cons (t := 22) rfl Sub.nil)))))))))) (.cons (t := 5003) rfl (.cons (t := 5004) rfl SubB.nil)) ?_ (fun j_12' hj12 => ?_)
            · skip
              refine Cod.block ?_
              refine Cod.close (k := 5001) (g := 5006) (fun z => cont 30 (⟨z⟩ : Raw)) rfl rfl rfl ?_
              refine Cod.loopL h (fun s13_ => [(13, ⟨True, rep s13_.1⟩), (14, ⟨True, rep s13_.2.1⟩)]) (fun s13_ => [(5001, some (CPred.at (ptr m5001 0) (deep (fun z0 => cont 30 (⟨z0⟩ : Raw)) (rowV 9 s13_.2.2))))]) (.cons (t := 13) rfl (.cons (t := 14) rfl Sub.nil)) (.cons (t := 5001) rfl SubB.nil) (.cons (t := 2) rfl (.cons (t := 3) rfl (.cons (t := 7) rfl (.cons (t := 8) rfl (.cons (t := 9) rfl (.cons (t := 10) rfl (.cons (t := 11) rfl (.cons (t := 20) rfl (.cons (t := 21) rfl (.cons (t := 22) rfl Sub.nil)))))))))) (.cons (t := 5003) rfl (.cons (t := 5004) rfl SubB.nil)) (fun s13_ o_13 h hD13 => ?_)
              unfold shape_wrapPart_L2 at h
              refine Cod.open (k := 5001) (g := 5007) rfl rfl (fun s5007 => ?_)
              refine Cod.seq ?_
              refine Cod.seq ?_
              refine Cod.region [] mixed (by kernel_rfl) ?_
              refine Chain.cons (StepOK.move .none (.tmp rfl (fun _ => trivial))) rfl ?_
              refine Chain.cons (StepOK.move .none (.tmp rfl (fun _ => trivial))) rfl ?_
              refine Chain.cons (StepOK.gt .none (.tmp rfl (fun _ => trivial)) (.tmp rfl (fun _ => trivial))) rfl ?_
              refine Chain.cons (StepOK.move .none (.tmp rfl (fun _ => trivial))) rfl ?_
              refine Chain.cons (StepOK.move (.at rfl rfl) (.tmp rfl (fun _ => trivial))) rfl ?_
              obtain ⟨r2, hv14, h⟩ := bind_some h
              refine Chain.cons (StepOK.callIf (.at rfl rfl) fnok80 (fun hg => utf8_RuneCountInString_ok ((fun hg => gd_some hv14 (hg.2)) hg)) (.cons (.tmp rfl id) .nil) (fun h => h)) rfl ?_
              refine Chain.cons (StepOK.gt (.at rfl rfl) (.tmp rfl id) (.int (by decide))) rfl ?_
              refine Chain.cons (StepOK.pickAnd .none (.tmp rfl (fun _ => trivial)) (.tmp rfl id)) rfl ?_
              refine Chain.nil ?_
              refine Ends.then ?_
              refine Cod.cond (t := 41) rfl trivial (fun hb15 => ?_) (fun hb15 => ?_)
              · replace h := bif_t h hb15
                refine Cod.skip ?_
                refine Ends.then ?_
                refine Cod.block ?_
                refine Cod.seq ?_
                refine Cod.region [] mixed (by kernel_rfl) ?_
                refine Chain.cons (StepOK.load .none ty23 (.tmp rfl (fun _ => trivial))) rfl ?_
                refine Chain.cons (StepOK.move .none (.tmp rfl (fun _ => trivial))) rfl ?_
                refine Chain.cons (StepOK.move .none (.tmp rfl (fun _ => trivial))) rfl ?_
                obtain ⟨r3, hv16, h⟩ := bind_some h
                refine Chain.cons (StepOK.call .none (shape_cut_ok hv16) (.cons (.tmp rfl (fun _ => trivial)) (.cons (.tmp rfl (fun _ => trivial)) (.cons (.tmp rfl (fun _ => trivial)) .nil)))) rfl ?_
                refine Chain.cons (StepOK.move .none (.tmp rfl (fun _ => trivial))) rfl ?_
                refine Chain.cons (StepOK.extract .none (.tmp rfl (fun _ => trivial)) rfl) rfl ?_
                refine Chain.cons (StepOK.extract .none (.tmp rfl (fun _ => trivial)) rfl) rfl ?_
                refine Chain.cons (StepOK.assign .none (.tmp rfl (fun _ => trivial))) rfl ?_
                refine Chain.cons (StepOK.assign .none (.tmp rfl (fun _ => trivial))) rfl ?_
                refine Chain.nil ?_
                refine Ends.then ?_
                refine Cod.seq ?_
                refine Cod.region [([5001], []), ([], []), ([], []), ([5007], [52, 5007]), ([5001, 52], [5001, 52])] mixed (by kernel_rfl) ?_
                refine Chain.consA (StepOK.loadAt0 (k := 5001) .none tr30 rfl (.tmp rfl (fun _ => trivial))) rfl ?_
                refine Chain.consA (StepOK.move .none (.tmp rfl (fun _ => trivial))) rfl ?_
                refine Chain.consA (StepOK.buildSlice (xs := [_]) .none sl30 ty9 hz9 (.cons (.tmp rfl (fun _ => trivial)) .nil) rfl (by decide)) rfl ?_
                obtain ⟨hn17, h⟩ := need_some h
                refine Chain.consW (StepOK.append (k := 5007) rk30 rfl (.told (.tmp rfl (fun _ => trivial)) rfl) (.tmp rfl (fun _ => trivial)) hn17) rfl rfl ?_
                refine Chain.consN (StepOK.storeRow (k := 5001) (t := 52) (set := fun _ z => z) ty30 rfl (.tmp rfl (fun _ => trivial)) .self rfl rfl) rfl ?_
                refine Chain.nil ?_
                refine Ends.then ?_
                refine Cod.open (k := 5001) (g := 5008) rfl rfl (fun s5008 => ?_)
                refine Cod.seq ?_
                refine Cod.region [] mixed (by kernel_rfl) ?_
                refine Chain.cons (StepOK.move .none (.tmp rfl (fun _ => trivial))) rfl ?_
                refine Chain.cons (StepOK.assign .none (.tmp rfl (fun _ => trivial))) rfl ?_
                refine Chain.nil ?_
                refine Ends.then ?_
                obtain ⟨c1, hv18, h⟩ := bnd_some h
                refine Cod.reB (t := 5008) rfl (congrArg (fun y => CPred.at s5008 (rowV 9 y)) hv18) ?_
                refine Cod.region [] mixed (by kernel_rfl) ?_
                refine Chain.cons (StepOK.load .none ty23 (.tmp rfl (fun _ => trivial))) rfl ?_
                refine Chain.cons (StepOK.move .none (.tmp rfl (fun _ => trivial))) rfl ?_
                obtain ⟨n2, hv19, h⟩ := bind_some h
                refine Chain.cons (StepOK.call .none (shape_measure_ok hv19) (.cons (.tmp rfl (fun _ => trivial)) (.cons (.tmp rfl (fun _ => trivial)) .nil))) rfl ?_
                refine Chain.cons (StepOK.assign .none (.tmp rfl (fun _ => trivial))) rfl ?_
                refine Chain.nil ?_
                refine Ends.blkNormal ?_
                refine Ends.close (k := 5001) (g := 5008) (fun z => cont 30 (⟨z⟩ : Raw)) rfl rfl rfl ?_
                exact Ends.againL (some_eq h) (.cons (t := 13) rfl (.cons (t := 14) rfl (.cons (t := 2) rfl (.cons (t := 3) rfl (.cons (t := 7) rfl (.cons (t := 8) rfl (.cons (t := 9) rfl (.cons (t := 10) rfl (.cons (t := 11) rfl (.cons (t := 20) rfl (.cons (t := 21) rfl (.cons (t := 22) rfl Sub.nil)))))))))))) (.cons (t := 5001) rfl (.cons (t := 5003) rfl (.cons (t := 5004) rfl SubB.nil)))
              · replace h := bif_f h hb15
                refine Cod.exit ?_
                refine Ends.thenExit ?_
                refine Ends.thenExit ?_
                refine Ends.blkExit ?_
                refine Ends.close (k := 5001) (g := 5007) (fun z => cont 30 (⟨z⟩ : Raw)) rfl rfl rfl ?_
                replace h := hD13 _ (some_eq h)
                exact Ends.join _ (some_eq h) (.cons (t := 13) rfl (.cons (t := 14) rfl (.cons (t := 2) rfl (.cons (t := 3) rfl (.cons (t := 7) rfl (.cons (t := 8) rfl (.cons (t := 9) rfl (.cons (t := 10) rfl (.cons (t := 11) rfl (.cons (t := 20) rfl (.cons (t := 21) rfl (.cons (t := 22) rfl Sub.nil)))))))))))) (.cons (t := 5001) rfl (.cons (t := 5003) rfl (.cons (t := 5004) rfl SubB.nil)))
            · subst hj12; have h := hK12; clear hK12
              refine Cod.open (k := 5001) (g := 5009) rfl rfl (fun s5009 => ?_)
              refine Cod.seq ?_
              refine Cod.region [([], []), ([], []), ([5003], [5003]), ([5004], [5004])] mixed (by kernel_rfl) ?_
              refine Chain.consA (StepOK.move .none (.tmp rfl (fun _ => trivial))) rfl ?_
              refine Chain.consA (StepOK.move .none (.tmp rfl (fun _ => trivial))) rfl ?_
              refine Chain.consN (StepOK.storeAt0 (g := 5003) ty9 rfl (.tmp rfl (fun _ => trivial)) (.tmp rfl (fun _ => trivial))) rfl ?_
              refine Chain.consN (StepOK.storeAt0 (g := 5004) ty3 rfl (.tmp rfl (fun _ => trivial)) (.tmp rfl (fun _ => trivial))) rfl ?_
              refine Chain.nil ?_
              refine Ends.then ?_
              refine Cod.exit ?_
              refine Ends.thenExit ?_
              refine Ends.blkExit ?_
              refine Ends.close (k := 5001) (g := 5009) (fun z => cont 30 (⟨z⟩ : Raw)) rfl rfl rfl ?_
              replace h := resb_ab hK9 (some_eq h)
              exact Ends.join _ (some_eq h) (.cons (t := 2) rfl (.cons (t := 3) rfl (.cons (t := 7) rfl (.cons (t := 8) rfl (.cons (t := 9) rfl (.cons (t := 10) rfl (.cons (t := 11) rfl (.cons (t := 20) rfl (.cons (t := 21) rfl (.cons (t := 22) rfl Sub.nil)))))))))) (.cons (t := 5001) rfl (.cons (t := 5003) rfl (.cons (t := 5004) rfl SubB.nil)))
          · replace h := bif_f h hb10
            refine Cod.skip ?_
            exact Ends.join _ (some_eq h) (.cons (t := 2) rfl (.cons (t := 3) rfl (.cons (t := 7) rfl (.cons (t := 8) rfl (.cons (t := 9) rfl (.cons (t := 10) rfl (.cons (t := 11) rfl (.cons (t := 13) rfl (.cons (t := 14) rfl (.cons (t := 20) rfl (.cons (t := 21) rfl (.cons (t := 22) rfl Sub.nil)))))))))))) (.cons (t := 5001) rfl (.cons (t := 5003) rfl (.cons (t := 5004) rfl (.cons (t := 5005) rfl SubB.nil))))
        · have h := resb_nx hK9 hj9
          refine Cod.seq ?_
          refine Cod.seq ?_
          refine Cod.region [([5003], []), ([], []), ([], []), ([5004], []), ([], []), ([], []), ([], []), ([], []), ([], []), ([], []), ([], []), ([], [])] mixed (by kernel_rfl) ?_
          refine Chain.consA (StepOK.loadAt0 (k := 5003) .none ty9 rfl (.tmp rfl (fun _ => trivial))) rfl ?_
          refine Chain.consA (StepOK.neS .none (eqAt_str Tryd.underlying9) (.tmp rfl (fun _ => trivial)) (.str (l := []) (by decide))) rfl ?_
          refine Chain.consA (StepOK.move .none (.tmp rfl (fun _ => trivial))) rfl ?_
          refine Chain.consA (StepOK.loadAt0 (k := 5004) (.at rfl rfl) ty3 rfl (.tmp rfl (fun _ => trivial))) rfl ?_
          refine Chain.consA (StepOK.fieldAddr (.at rfl rfl) fd23_2 hfd23_2 (.tmp rfl (fun _ => trivial))) rfl ?_
          refine Chain.consA (StepOK.load (.at rfl rfl) ty3 (.tmp rfl id)) rfl ?_
          refine Chain.consA (StepOK.addW (.at rfl rfl) (.tmp rfl id) (.tmp rfl id)) rfl ?_
          refine Chain.consA (StepOK.move (.at rfl rfl) (.tmp rfl (fun _ => trivial))) rfl ?_
          refine Chain.consA (StepOK.addW (.at rfl rfl) (.tmp rfl id) (.tmp rfl id)) rfl ?_
          refine Chain.consA (StepOK.move (.at rfl rfl) (.tmp rfl (fun _ => trivial))) rfl ?_
          refine Chain.consA (StepOK.gt (.at rfl rfl) (.tmp rfl id) (.tmp rfl id)) rfl ?_
          refine Chain.consA (StepOK.pickAnd .none (.tmp rfl (fun _ => trivial)) (.tmp rfl id)) rfl ?_
          refine Chain.nil ?_
          refine Ends.then ?_
          obtain ⟨j_20, h, hK20⟩ := bind_some h
          refine Cod.thenJ (ι := ((List Str) × Str × Int)) (fun j_20 => []) (fun j_20 => [(5001, some (CPred.at (ptr m5001 0) (deep (fun z0 => cont 30 (⟨z0⟩ : Raw)) (rowV 9 j_20.1)))), (5003, some (boxAt m5003 9 j_20.2.1)), (5004, some (boxAt m5004 3 j_20.2.2))]) (fun s => j_20 = s) (.cons (t := 2) rfl (.cons (t := 3) rfl (.cons (t := 7) rfl (.cons (t := 8) rfl (.cons (t := 9) rfl (.cons (t := 10) rfl (.cons (t := 11) rfl (.cons (t := 13) rfl (.cons (t := 14) rfl (.cons (t := 20) rfl (.cons (t := 21) rfl (.cons (t := 22) rfl Sub.nil)))))))))))) SubB.nil ?_ (fun j_20' hj20 => ?_)
          · skip
            refine Cod.cond (t := 70) rfl trivial (fun hb21 => ?_) (fun hb21 => ?_)
            · replace h := bif_t h hb21
              refine Cod.region [([], []), ([5003, 5001, 5005, 5004], [5003, 5001, 5005, 5004])] mixed (by kernel_rfl) ?_
              refine Chain.consA (StepOK.move .none (.tmp rfl (fun _ => trivial))) rfl ?_
              obtain ⟨r4, hv22, h⟩ := bind_some h
              refine Chain.consW (StepOK.callClo [5003, 5001, 5005, 5004] (Ss := []) (Cs := [isV (ptr m5003 0), isV (ptr m5001 0), isV (ptr m5004 0)]) (.tmp rfl (fun _ => trivial)) (shape_wrapPart_1_ok hv22) .nil (.cons (k := 5003) rfl (.cons (k := 5001) rfl (.cons (k := 5005) rfl (.cons (k := 5004) rfl .nil)))) rfl (by decide) (by decide) (by intro d h; cases h; decide)) rfl rfl ?_
              refine Chain.nil ?_
              exact Ends.join _ (some_eq h) (.cons (t := 2) rfl (.cons (t := 3) rfl (.cons (t := 7) rfl (.cons (t := 8) rfl (.cons (t := 9) rfl (.cons (t := 10) rfl (.cons (t := 11) rfl (.cons (t := 13) rfl (.cons (t := 14) rfl (.cons (t := 20) rfl (.cons (t := 21) rfl (.cons (t := 22) rfl Sub.nil)))))))))))) (.cons (t := 5001) rfl (.cons (t := 5003) rfl (.cons (t := 5004) rfl SubB.nil)))
            · replace h := bif_f h hb21
              refine Cod.skip ?_
              refine Ends.close (k := 5001) (g := 5005) (fun z => cont 30 (⟨z⟩ : Raw)) rfl rfl rfl ?_
              exact Ends.join _ (some_eq h) (.cons (t := 2) rfl (.cons (t := 3) rfl (.cons (t := 7) rfl (.cons (t := 8) rfl (.cons (t := 9) rfl (.cons (t := 10) rfl (.cons (t := 11) rfl (.cons (t := 13) rfl (.cons (t := 14) rfl (.cons (t := 20) rfl (.cons (t := 21) rfl (.cons (t := 22) rfl Sub.nil)))))))))))) (.cons (t := 5001) rfl (.cons (t := 5003) rfl (.cons (t := 5004) rfl SubB.nil)))
          · subst hj20; have h := hK20; clear hK20
            refine Cod.open (k := 5001) (g := 5010) rfl rfl (fun s5010 => ?_)
            refine Cod.seq ?_
            refine Cod.region [([5003], []), ([], [])] mixed (by kernel_rfl) ?_
            refine Chain.consA (StepOK.loadAt0 (k := 5003) .none ty9 rfl (.tmp rfl (fun _ => trivial))) rfl ?_
            refine Chain.consA (StepOK.eqS .none (eqAt_str Tryd.underlying9) (.tmp rfl (fun _ => trivial)) (.str (l := []) (by decide))) rfl ?_
            refine Chain.nil ?_
            refine Ends.then ?_
            refine Cod.cond (t := 74) rfl trivial (fun hb23 => ?_) (fun hb23 => ?_)
            · replace h := bif_t h hb23
              refine Cod.region [([], []), ([], []), ([5003], [5003]), ([5004], [5004])] mixed (by kernel_rfl) ?_
              refine Chain.consA (StepOK.move .none (.tmp rfl (fun _ => trivial))) rfl ?_
              refine Chain.consA (StepOK.move .none (.tmp rfl (fun _ => trivial))) rfl ?_
              refine Chain.consN (StepOK.storeAt0 (g := 5003) ty9 rfl (.tmp rfl (fun _ => trivial)) (.tmp rfl (fun _ => trivial))) rfl ?_
              refine Chain.consN (StepOK.storeAt0 (g := 5004) ty3 rfl (.tmp rfl (fun _ => trivial)) (.tmp rfl (fun _ => trivial))) rfl ?_
              refine Chain.nil ?_
              refine Ends.blkNormal ?_
              refine Ends.close (k := 5001) (g := 5010) (fun z => cont 30 (⟨z⟩ : Raw)) rfl rfl rfl ?_
              exact Ends.join _ (some_eq h) (.cons (t := 2) rfl (.cons (t := 3) rfl (.cons (t := 7) rfl (.cons (t := 8) rfl (.cons (t := 9) rfl (.cons (t := 10) rfl (.cons (t := 11) rfl (.cons (t := 20) rfl (.cons (t := 21) rfl (.cons (t := 22) rfl Sub.nil)))))))))) (.cons (t := 5001) rfl (.cons (t := 5003) rfl (.cons (t := 5004) rfl SubB.nil)))
            · replace h := bif_f h hb23
              refine Cod.region [([5003], []), ([], []), ([], []), ([], []), ([5004], []), ([], []), ([], []), ([], []), ([], []), ([], []), ([5003], [5003]), ([5004], [5004])] mixed (by kernel_rfl) ?_
              refine Chain.consA (StepOK.loadAt0 (k := 5003) .none ty9 rfl (.tmp rfl (fun _ => trivial))) rfl ?_
              obtain ⟨hn24, h⟩ := need_some h
              refine Chain.consA (StepOK.addStr .none (.tmp rfl (fun _ => trivial)) (.str (l := [32]) (by decide)) (fun _ => hn24)) rfl ?_
              refine Chain.consA (StepOK.move .none (.tmp rfl (fun _ => trivial))) rfl ?_
              obtain ⟨hn25, h⟩ := need_some h
              obtain ⟨v1, hv26, h⟩ := bnd_some h
              refine Chain.consA (StepOK.re hv26 (StepOK.addStr .none (.tmp rfl (fun _ => trivial)) (.tmp rfl (fun _ => trivial)) (fun _ => hn25))) rfl ?_
              refine Chain.consA (StepOK.loadAt0 (k := 5004) .none ty3 rfl (.tmp rfl (fun _ => trivial))) rfl ?_
              refine Chain.consA (StepOK.fieldAddr .none fd23_2 hfd23_2 (.tmp rfl (fun _ => trivial))) rfl ?_
              refine Chain.consA (StepOK.load .none ty3 (.tmp rfl (fun _ => trivial))) rfl ?_
              refine Chain.consA (StepOK.addW .none (.tmp rfl (fun _ => trivial)) (.tmp rfl (fun _ => trivial))) rfl ?_
              refine Chain.consA (StepOK.move .none (.tmp rfl (fun _ => trivial))) rfl ?_
              obtain ⟨v2, hv27, h⟩ := bnd_some h
              refine Chain.consA (StepOK.re hv27 (StepOK.addW .none (.tmp rfl (fun _ => trivial)) (.tmp rfl (fun _ => trivial)))) rfl ?_
              refine Chain.consN (StepOK.storeAt0 (g := 5003) ty9 rfl (.tmp rfl (fun _ => trivial)) (.tmp rfl (fun _ => trivial))) rfl ?_
              refine Chain.consN (StepOK.storeAt0 (g := 5004) ty3 rfl (.tmp rfl (fun _ => trivial)) (.tmp rfl (fun _ => trivial))) rfl ?_
              refine Chain.nil ?_
              refine Ends.blkNormal ?_
              refine Ends.close (k := 5001) (g := 5010) (fun z => cont 30 (⟨z⟩ : Raw)) rfl rfl rfl ?_
              exact Ends.join _ (some_eq h) (.cons (t := 2) rfl (.cons (t := 3) rfl (.cons (t := 7) rfl (.cons (t := 8) rfl (.cons (t := 9) rfl (.cons (t := 10) rfl (.cons (t := 11) rfl (.cons (t := 20) rfl (.cons (t := 21) rfl (.cons (t := 22) rfl Sub.nil)))))))))) (.cons (t := 5001) rfl (.cons (t := 5003) rfl (.cons (t := 5004) rfl SubB.nil)))
      · subst hj5; have h := hK5; clear hK5
        refine Cod.open (k := 5001) (g := 5011) rfl rfl (fun s5011 => ?_)
        refine Cod.region [] mixed (by kernel_rfl) ?_
        refine Chain.cons (StepOK.addW .none (.tmp rfl (fun _ => trivial)) (.int (by decide))) rfl ?_
        refine Chain.cons (StepOK.move .none (.tmp rfl (fun _ => trivial))) rfl ?_
        refine Chain.nil ?_
        refine Ends.close (k := 5001) (g := 5011) (fun z => cont 30 (⟨z⟩ : Raw)) rfl rfl rfl ?_
        exact Ends.againL (some_eq h) (.cons (t := 22) rfl (.cons (t := 2) rfl (.cons (t := 3) rfl (.cons (t := 7) rfl (.cons (t := 8) rfl (.cons (t := 9) rfl (.cons (t := 10) rfl (.cons (t := 11) rfl (.cons (t := 20) rfl (.cons (t := 21) rfl Sub.nil)))))))))) (.cons (t := 5001) rfl (.cons (t := 5003) rfl (.cons (t := 5004) rfl SubB.nil)))
    · replace h := bif_f h hb4
      refine Cod.exit ?_
      refine Ends.thenExit ?_
      refine Ends.thenExit ?_
      refine Ends.blkExit ?_
      refine Ends.close (k := 5001) (g := 5005) (fun z => cont 30 (⟨z⟩ : Raw)) rfl rfl rfl ?_
      replace h := hD3 _ (some_eq h)
      exact Ends.join _ (some_eq h) (.cons (t := 7) rfl (.cons (t := 8) rfl (.cons (t := 9) rfl (.cons (t := 10) rfl (.cons (t := 11) rfl Sub.nil))))) (.cons (t := 5001) rfl (.cons (t := 5003) rfl (.cons (t := 5004) rfl SubB.nil)))
  · subst hj2; have h := hK2; clear hK2
    refine Cod.open (k := 5001) (g := 5012) rfl rfl (fun s5012 => ?_)
    refine Cod.seq ?_
    refine Cod.region [([], []), ([5003, 5001, 5012, 5004], [5003, 5001, 5012, 5004])] mixed (by kernel_rfl) ?_
    refine Chain.consA (StepOK.move .none (.tmp rfl (fun _ => trivial))) rfl ?_
    obtain ⟨r5, hv28, h⟩ := bind_some h
    refine Chain.consW (StepOK.callClo [5003, 5001, 5012, 5004] (Ss := []) (Cs := [isV (ptr m5003 0), isV (ptr m5001 0), isV (ptr m5004 0)]) (.tmp rfl (fun _ => trivial)) (shape_wrapPart_1_ok hv28) .nil (.cons (k := 5003) rfl (.cons (k := 5001) rfl (.cons (k := 5012) rfl (.cons (k := 5004) rfl .nil)))) rfl (by decide) (by decide) (by intro d h; cases h; decide)) rfl rfl ?_
    refine Chain.nil ?_
    refine Ends.then ?_
    refine Cod.open (k := 5001) (g := 5013) rfl rfl (fun s5013 => ?_)
    refine Cod.seq ?_
    refine Cod.seq ?_
    refine Cod.region [] mixed (by kernel_rfl) ?_
    refine Chain.cons (StepOK.move .none (.tmp rfl (fun _ => trivial))) rfl ?_
    refine Chain.cons (StepOK.len .none sl30 (.tmp rfl (fun _ => trivial))) rfl ?_
    refine Chain.cons (StepOK.eqI .none (.tmp rfl (fun _ => trivial)) (.int (by decide))) rfl ?_
    refine Chain.nil ?_
    refine Ends.then ?_
    obtain ⟨j_29, h, hK29⟩ := bind_some h
    refine Cod.thenJ (ι := (List Str)) (fun j_29 => []) (fun j_29 => [(5001, some (CPred.at (ptr m5001 0) (deep (fun z0 => cont 30 (⟨z0⟩ : Raw)) (rowV 9 j_29))))]) (fun s => j_29 = s) (.cons (t := 7) rfl Sub.nil) SubB.nil ?_ (fun j_29' hj29 => ?_)
    · skip
      refine Cod.cond (t := 92) rfl trivial (fun hb30 => ?_) (fun hb30 => ?_)
      · replace h := bif_t h hb30
        refine Cod.region [([5001], []), ([], []), ([5013], [95, 5013]), ([5001, 95], [5001, 95])] mixed (by kernel_rfl) ?_
        refine Chain.consA (StepOK.loadAt0 (k := 5001) .none tr30 rfl (.tmp rfl (fun _ => trivial))) rfl ?_
        refine Chain.consA (StepOK.buildSlice (xs := [_]) .none sl30 ty9 hz9 (.cons (.str (l := []) (by decide)) .nil) rfl (by decide)) rfl ?_
        obtain ⟨hn31, h⟩ := need_some h
        refine Chain.consW (StepOK.append (k := 5013) rk30 rfl (.told (.tmp rfl (fun _ => trivial)) rfl) (.tmp rfl (fun _ => trivial)) hn31) rfl rfl ?_
        refine Chain.consN (StepOK.storeRow (k := 5001) (t := 95) (set := fun _ z => z) ty30 rfl (.tmp rfl (fun _ => trivial)) .self rfl rfl) rfl ?_
        refine Chain.nil ?_
        exact Ends.join _ (some_eq h) (.cons (t := 7) rfl Sub.nil) (.cons (t := 5001) rfl SubB.nil)
      · replace h := bif_f h hb30
        refine Cod.skip ?_
        refine Ends.close (k := 5001) (g := 5013) (fun z => cont 30 (⟨z⟩ : Raw)) rfl rfl rfl ?_
        exact Ends.join _ (some_eq h) (.cons (t := 7) rfl Sub.nil) (.cons (t := 5001) rfl SubB.nil)
    · subst hj29; have h := hK29; clear hK29
      refine Cod.open (k := 5001) (g := 5014) rfl rfl (fun s5014 => ?_)
      refine Cod.seq ?_
      refine Cod.region [([5001], []), ([], [])] mixed (by kernel_rfl) ?_
      refine Chain.consA (StepOK.loadAt0 (k := 5001) .none tr30 rfl (.tmp rfl (fun _ => trivial))) rfl ?_
      refine Chain.consA (StepOK.assign .none (.tmp rfl (fun _ => trivial))) rfl ?_
      refine Chain.nil ?_
      refine Ends.then ?_
      refine Cod.freezeRow (g := 5014) (ts := [6]) rfl (.cons (t := 6) rfl trivial .nil) SubB.nil rfl ?_
      refine Cod.ret ?_
      obtain rfl := some_eq h
      exact Ends.ret1 (.inl rfl) Tryd.results73 (ResOK.tmp rfl trivial Imp.refl)

theorem shape_wrap_ok {f1 : Font} {text1 : Str} {width1 : Int} {r : (List Str)}  (h : shape_wrap f1 text1 width1 = some r) : FSpec Tryd.prog 45 [rep f1, rep text1, rep width1] (rep r) := by
  unfold shape_wrap at h
  refine FSpec.intro (n := 25) fnok45 Tryd.func45 rfl Tryd.ntmps45 rfl (fun F => ?_)
  refine Cod.seq ?_
  refine Cod.region [] mixed (by kernel_rfl) ?_
  refine Chain.cons (StepOK.box .none (.tmp rfl (fun _ => trivial))) rfl ?_
  refine Chain.cons (StepOK.assign .none (.const (x := ([] : (List Str))) (fun M w => ⟨_, ⟨none, 0, rfl, Nat.le_refl _, by decide, rfl⟩, rfl⟩))) rfl ?_
  refine Chain.nil ?_
  refine Ends.then ?_
  refine Cod.seq ?_
  refine Cod.region [([], [7])] mixed (by kernel_rfl) ?_
  refine Chain.consW (StepOK.nilRow (T := 9) (α := Str) rfl) rfl rfl ?_
  refine Chain.nil ?_
  refine Ends.then ?_
  refine Cod.nameRow (t := 7) (g := 5001) rfl rfl rfl (fun s5001 => ?_)
  refine Cod.seq ?_
  refine Cod.seq ?_
  refine Cod.region [] mixed (by kernel_rfl) ?_
  refine Chain.cons (StepOK.move .none (.tmp rfl (fun _ => trivial))) rfl ?_
  obtain ⟨r1, hv1, h⟩ := bind_some h
  refine Chain.cons (StepOK.call .none (strings_Split_ok hv1).frz (.cons (.tmp rfl (fun _ => trivial)) (.cons (.str (l := [10]) (by decide)) .nil))) rfl ?_
  refine Chain.cons (StepOK.len .none sl30 (.tmp rfl (fun _ => trivial))) rfl ?_
  refine Chain.cons (StepOK.move .none (.int (by decide))) rfl ?_
  refine Chain.nil ?_
  refine Ends.then ?_
  obtain ⟨j_2, h, hK2⟩ := bind_some h
  refine Cod.thenJ (ι := (List Str)) (fun j_2 => []) (fun j_2 => [(7, some (rowV 9 j_2))]) (fun s => j_2 = s) Sub.nil SubB.nil ?_ (fun j_2' hj2 => ?_)
  · skip
    refine Cod.block ?_
    refine Cod.anon (t := 7) (g := 5001) rfl rfl trivial rfl ?_
    refine Cod.rforL h (fun p3_ => [(13, ⟨True, rep p3_.1⟩)]) (fun p3_ => [(7, some (rowV 9 p3_.2))]) (.cons (t := 13) rfl Sub.nil) (.cons (t := 7) rfl SubB.nil) (.cons (t := 2) rfl (.cons (t := 3) rfl (.cons (t := 11) rfl (.cons (t := 12) rfl Sub.nil)))) SubB.nil (fun p3_ o_3 h hD3 => ?_)
    refine Cod.nameRow (t := 7) (g := 5002) rfl rfl rfl (fun s5002 => ?_)
    refine Cod.seq ?_
    refine Cod.region [] mixed (by kernel_rfl) ?_
    refine Chain.cons (StepOK.lt .none (.tmp rfl (fun _ => trivial)) (.tmp rfl (fun _ => trivial))) rfl ?_
    refine Chain.nil ?_
    refine Ends.then ?_
    refine Cod.seq ?_
    refine Cod.cond (t := 14) rfl trivial (fun hb4 => ?_) (fun hb4 => ?_)
    · replace h := bif_t h hb4
      refine Cod.skip ?_
      refine Ends.then ?_
      refine Cod.seq ?_
      obtain ⟨j_5, h, hK5⟩ := bind_some h
      unfold shape_wrap_L1 at h
      refine Cod.thenJ (ι := (List Str)) (fun j_5 => []) (fun j_5 => [(7, some (rowV 9 j_5))]) (fun s => j_5 = s) (.cons (t := 2) rfl (.cons (t := 3) rfl (.cons (t := 11) rfl (.cons (t := 12) rfl (.cons (t := 13) rfl Sub.nil))))) SubB.nil ?_ (fun j_5' hj5 => ?_)
      · skip
        refine Cod.block ?_
        refine Cod.seq ?_
        refine Cod.region [] mixed (by kernel_rfl) ?_
        obtain ⟨hn6, h⟩ := need_some h
        refine Chain.cons (StepOK.indexAddr .none sl30 ty9 (.tmp rfl (fun _ => trivial)) (.tmp rfl (fun _ => trivial)) (fun _ => hn6)) rfl ?_
        refine Chain.cons (StepOK.load .none ty9 (.tmp rfl (fun _ => trivial))) rfl ?_
        refine Chain.cons (StepOK.assign .none (.tmp rfl (fun _ => trivial))) rfl ?_
        refine Chain.nil ?_
        refine Ends.then ?_
        refine Cod.region [([], []), ([], []), ([], []), ([], []), ([], []), ([5002], [22, 5002]), ([22], [7, 22])] mixed (by kernel_rfl) ?_
        refine Chain.consA (StepOK.move .none (.tmp rfl (fun _ => trivial))) rfl ?_
        refine Chain.consA (StepOK.load .none ty23 (.tmp rfl (fun _ => trivial))) rfl ?_
        refine Chain.consA (StepOK.move .none (.tmp rfl (fun _ => trivial))) rfl ?_
        refine Chain.consA (StepOK.move .none (.tmp rfl (fun _ => trivial))) rfl ?_
        obtain ⟨r2, hv7, h⟩ := bind_some h
        refine Chain.consA (StepOK.call .none (shape_wrapPart_ok hv7) (.cons (.tmp rfl (fun _ => trivial)) (.cons (.tmp rfl (fun _ => trivial)) (.cons (.tmp rfl (fun _ => trivial)) .nil)))) rfl ?_
        obtain ⟨hn8, h⟩ := need_some h
        refine Chain.consW (StepOK.append (k := 5002) rk30 rfl (.told (.tmp rfl (fun _ => trivial)) rfl) (.tmp rfl (fun _ => trivial)) hn8) rfl rfl ?_
        refine Chain.consWD (StepOK.passRow rfl (.tmp rfl)) rfl rfl ?_
        refine Chain.nil ?_
        refine Ends.blkNormal ?_
        exact Ends.join _ (some_eq h) (.cons (t := 2) rfl (.cons (t := 3) rfl (.cons (t := 11) rfl (.cons (t := 12) rfl (.cons (t := 13) rfl Sub.nil))))) (.cons (t := 7) rfl SubB.nil)
      · subst hj5; have h := hK5; clear hK5
        refine Cod.nameRow (t := 7) (g := 5003) rfl rfl rfl (fun s5003 => ?_)
        refine Cod.region [] mixed (by kernel_rfl) ?_
        refine Chain.cons (StepOK.addW .none (.tmp rfl (fun _ => trivial)) (.int (by decide))) rfl ?_
        refine Chain.cons (StepOK.move .none (.tmp rfl (fun _ => trivial))) rfl ?_
        refine Chain.nil ?_
        refine Ends.anon (t := 7) (g := 5003) rfl rfl trivial rfl ?_
        exact Ends.againL (some_eq h) (.cons (t := 13) rfl (.cons (t := 2) rfl (.cons (t := 3) rfl (.cons (t := 11) rfl (.cons (t := 12) rfl Sub.nil))))) (.cons (t := 7) rfl SubB.nil)
    · replace h := bif_f h hb4
      refine Cod.exit ?_
      refine Ends.thenExit ?_
      refine Ends.thenExit ?_
      refine Ends.blkExit ?_
      refine Ends.anon (t := 7) (g := 5002) rfl rfl trivial rfl ?_
      replace h := hD3 _ (some_eq h)
      exact Ends.join _ (some_eq h) Sub.nil (.cons (t := 7) rfl SubB.nil)
  · subst hj2; have h := hK2; clear hK2
    refine Cod.freezeRowA (t := 7) rfl rfl SubB.nil rfl ?_
    refine Cod.seq ?_
    refine Cod.region [] mixed (by kernel_rfl) ?_
    refine Chain.cons (StepOK.move .none (.tmp rfl (fun _ => trivial))) rfl ?_
    refine Chain.cons (StepOK.assign .none (.tmp rfl (fun _ => trivial))) rfl ?_
    refine Chain.nil ?_
    refine Ends.then ?_
    refine Cod.ret ?_
    obtain rfl := some_eq h
    exact Ends.ret1 (.inl rfl) Tryd.results45 (ResOK.tmp rfl trivial Imp.refl)

theorem shape_inner_ok {kind1 : Int} {w1 : Int} {h1 : Int} {pad1 : Int} {r : Box}  (h : shape_inner kind1 w1 h1 pad1 = some r) : FSpec Tryd.prog 55 [rep kind1, rep w1, rep h1, rep pad1] (rep r) := by
  unfold shape_inner at h
  refine FSpec.intro (n := 86) fnok55 Tryd.func55 rfl Tryd.ntmps55 rfl (fun F => ?_)
  refine Cod.seq ?_
  refine Cod.region [([], [8])] mixed (by kernel_rfl) ?_
  refine Chain.consW (StepOK.alloc zo48 rfl) rfl rfl ?_
  refine Chain.nil ?_
  refine Ends.then ?_
  obtain ⟨v1, hv1, h⟩ := bnd_some h
  refine Cod.reB (t := 8) rfl (congrArg (cont 48) hv1) ?_
  refine Cod.nameBox (t := 8) (g := 5001) rfl rfl (fun m5001 => ?_)
  refine Cod.seq ?_
  refine Cod.region [([], []), ([], []), ([], []), ([], [9]), ([9], [9])] mixed (by kernel_rfl) ?_
  refine Chain.consA (StepOK.move .none (.tmp rfl (fun _ => trivial))) rfl ?_
  refine Chain.consA (StepOK.move .none (.tmp rfl (fun _ => trivial))) rfl ?_
  obtain ⟨v2, hv2, h⟩ := bnd_some h
  refine Chain.consA (StepOK.re hv2 (StepOK.buildF (y := (⟨(0 : Int), (0 : Int), w1, h1⟩ : Box)) .none bu48 zc48 rfl (.cons (.tmp rfl (fun _ => trivial)) (.cons (.tmp rfl (fun _ => trivial)) .nil)) (.cons rfl sf48_2 (.cons rfl sf48_3 .nil)))) rfl ?_
  refine Chain.consW (StepOK.alloc zo48 rfl) rfl rfl ?_
  refine Chain.consN (StepOK.store ty48 rfl rfl (.tmp rfl (fun _ => trivial))) rfl ?_
  refine Chain.nil ?_
  refine Ends.then ?_
  refine Cod.nameBox (t := 9) (g := 5002) rfl rfl (fun m5002 => ?_)
  refine Cod.seq ?_
  refine Cod.seq ?_
  refine Cod.region [] mixed (by kernel_rfl) ?_
  refine Chain.cons (StepOK.move .none (.tmp rfl (fun _ => trivial))) rfl ?_
  refine Chain.nil ?_
  refine Ends.then ?_
  obtain ⟨j_3, h, hK3⟩ := bind_some h
  refine Cod.thenJ (ι := Box) (fun j_3 => []) (fun j_3 => [(5002, some (boxAt m5002 48 j_3))]) (fun s => j_3 = s) (.cons (t := 3) rfl (.cons (t := 8) rfl (.cons (t := 9) rfl Sub.nil))) (.cons (t := 5001) rfl SubB.nil) ?_ (fun j_3' hj3 => ?_)
  · skip
    refine Cod.block ?_
    refine Cod.seq ?_
    refine Cod.region [] mixed (by kernel_rfl) ?_
    refine Chain.cons (StepOK.eqI .none (.tmp rfl (fun _ => trivial)) (.int (by decide))) rfl ?_
    refine Chain.cons (StepOK.assign .none (.tmp rfl (fun _ => trivial))) rfl ?_
    refine Chain.nil ?_
    refine Ends.then ?_
    refine Cod.cond (t := 14) rfl trivial (fun hb4 => ?_) (fun hb4 => ?_)
    · replace h := bif_t h hb4
      refine Cod.region [([], []), ([], []), ([], []), ([], []), ([], []), ([], []), ([], []), ([], []), ([], []), ([5002], [5002])] mixed (by kernel_rfl) ?_
      refine Chain.consA (StepOK.move .none (.tmp rfl (fun _ => trivial))) rfl ?_
      refine Chain.consA (StepOK.quo .none (.tmp rfl (fun _ => trivial)) (.int (by decide)) (fun _ => by decide)) rfl ?_
      refine Chain.consA (StepOK.move .none (.tmp rfl (fun _ => trivial))) rfl ?_
      refine Chain.consA (StepOK.move .none (.tmp rfl (fun _ => trivial))) rfl ?_
      refine Chain.consA (StepOK.quo .none (.tmp rfl (fun _ => trivial)) (.int (by decide)) (fun _ => by decide)) rfl ?_
      refine Chain.consA (StepOK.mulW .none (.tmp rfl (fun _ => trivial)) (.int (by decide))) rfl ?_
      refine Chain.consA (StepOK.subW .none (.tmp rfl (fun _ => trivial)) (.tmp rfl (fun _ => trivial))) rfl ?_
      refine Chain.consA (StepOK.move .none (.tmp rfl (fun _ => trivial))) rfl ?_
      obtain ⟨v3, hv5, h⟩ := bnd_some h
      refine Chain.consA (StepOK.re hv5 (StepOK.buildF (y := (⟨h1.tdiv 4, (0 : Int), W (w1 - (W ((h1.tdiv 4) * 2))), h1⟩ : Box)) .none bu48 zc48 rfl (.cons (.tmp rfl (fun _ => trivial)) (.cons (.tmp rfl (fun _ => trivial)) (.cons (.tmp rfl (fun _ => trivial)) .nil))) (.cons rfl sf48_0 (.cons rfl sf48_2 (.cons rfl sf48_3 .nil))))) rfl ?_
      refine Chain.consN (StepOK.storeAt0 (g := 5002) ty48 rfl (.tmp rfl (fun _ => trivial)) (.tmp rfl (fun _ => trivial))) rfl ?_
      refine Chain.nil ?_
      refine Ends.blkNormal ?_
      exact Ends.join _ (some_eq h) (.cons (t := 3) rfl (.cons (t := 8) rfl (.cons (t := 9) rfl Sub.nil))) (.cons (t := 5002) rfl (.cons (t := 5001) rfl SubB.nil))
    · replace h := bif_f h hb4
      refine Cod.seq ?_
      refine Cod.region [] mixed (by kernel_rfl) ?_
      refine Chain.cons (StepOK.eqI .none (.tmp rfl (fun _ => trivial)) (.int (by decide))) rfl ?_
      refine Chain.cons (StepOK.assign .none (.tmp rfl (fun _ => trivial))) rfl ?_
      refine Chain.nil ?_
      refine Ends.then ?_
      refine Cod.cond (t := 25) rfl trivial (fun hb6 => ?_) (fun hb6 => ?_)
      · replace h := bif_t h hb6
        refine Cod.seq ?_
        refine Cod.region [([], []), ([], []), ([], []), ([], []), ([], []), ([], []), ([], []), ([5002], [5002]), ([], []), ([5002], [5002])] mixed (by kernel_rfl) ?_
        refine Chain.consA (StepOK.move .none (.tmp rfl (fun _ => trivial))) rfl ?_
        refine Chain.consA (StepOK.mulW .none (.tmp rfl (fun _ => trivial)) (.int (by decide))) rfl ?_
        obtain ⟨v4, hv7, h⟩ := bnd_some h
        refine Chain.consA (StepOK.re hv7 (StepOK.quo .none (.tmp rfl (fun _ => trivial)) (.int (by decide)) (fun _ => by decide))) rfl ?_
        refine Chain.consA (StepOK.move .none (.tmp rfl (fun _ => trivial))) rfl ?_
        refine Chain.consA (StepOK.mulW .none (.tmp rfl (fun _ => trivial)) (.int (by decide))) rfl ?_
        obtain ⟨v5, hv8, h⟩ := bnd_some h
        refine Chain.consA (StepOK.re hv8 (StepOK.quo .none (.tmp rfl (fun _ => trivial)) (.int (by decide)) (fun _ => by decide))) rfl ?_
        refine Chain.consA (StepOK.fieldPtr .none fd48_2 (.tmp rfl (fun _ => trivial))) rfl ?_
        refine Chain.consN (StepOK.storeAt (g := 5002) ty3 rfl (.tmp rfl (fun _ => trivial)) sf48_2 (.tmp rfl (fun _ => trivial))) rfl ?_
        refine Chain.consA (StepOK.fieldPtr .none fd48_3 (.tmp rfl (fun _ => trivial))) rfl ?_
        refine Chain.consN (StepOK.storeAt (g := 5002) ty3 rfl (.tmp rfl (fun _ => trivial)) sf48_3 (.tmp rfl (fun _ => trivial))) rfl ?_
        refine Chain.nil ?_
        refine Ends.then ?_
        obtain ⟨b1, hv9, h⟩ := bnd_some h
        refine Cod.reB (t := 5002) rfl (congrArg (fun y => boxAt m5002 48 y) hv9) ?_
        refine Cod.region [([], []), ([], []), ([5002], []), ([], []), ([], []), ([], []), ([], []), ([5002], []), ([], []), ([], []), ([], []), ([5002], [5002]), ([], []), ([5002], [5002])] mixed (by kernel_rfl) ?_
        refine Chain.consA (StepOK.move .none (.tmp rfl (fun _ => trivial))) rfl ?_
        refine Chain.consA (StepOK.fieldPtr .none fd48_2 (.tmp rfl (fun _ => trivial))) rfl ?_
        refine Chain.consA (StepOK.loadAt (k := 5002) .none ty3 rfl (.tmp rfl (fun _ => trivial)) hfd48_2) rfl ?_
        refine Chain.consA (StepOK.subW .none (.tmp rfl (fun _ => trivial)) (.tmp rfl (fun _ => trivial))) rfl ?_
        obtain ⟨v6, hv10, h⟩ := bnd_some h
        refine Chain.consA (StepOK.re hv10 (StepOK.quo .none (.tmp rfl (fun _ => trivial)) (.int (by decide)) (fun _ => by decide))) rfl ?_
        refine Chain.consA (StepOK.move .none (.tmp rfl (fun _ => trivial))) rfl ?_
        refine Chain.consA (StepOK.fieldPtr .none fd48_3 (.tmp rfl (fun _ => trivial))) rfl ?_
        refine Chain.consA (StepOK.loadAt (k := 5002) .none ty3 rfl (.tmp rfl (fun _ => trivial)) hfd48_3) rfl ?_
        refine Chain.consA (StepOK.subW .none (.tmp rfl (fun _ => trivial)) (.tmp rfl (fun _ => trivial))) rfl ?_
        obtain ⟨v7, hv11, h⟩ := bnd_some h
        refine Chain.consA (StepOK.re hv11 (StepOK.quo .none (.tmp rfl (fun _ => trivial)) (.int (by decide)) (fun _ => by decide))) rfl ?_
        refine Chain.consA (StepOK.fieldPtr .none fd48_0 (.tmp rfl (fun _ => trivial))) rfl ?_
        refine Chain.consN (StepOK.storeAt (g := 5002) ty3 rfl (.tmp rfl (fun _ => trivial)) sf48_0 (.tmp rfl (fun _ => trivial))) rfl ?_
        refine Chain.consA (StepOK.fieldPtr .none fd48_1 (.tmp rfl (fun _ => trivial))) rfl ?_
        refine Chain.consN (StepOK.storeAt (g := 5002) ty3 rfl (.tmp rfl (fun _ => trivial)) sf48_1 (.tmp rfl (fun _ => trivial))) rfl ?_
        refine Chain.nil ?_
        refine Ends.blkNormal ?_
        exact Ends.join _ (some_eq h) (.cons (t := 3) rfl (.cons (t := 8) rfl (.cons (t := 9) rfl Sub.nil))) (.cons (t := 5002) rfl (.cons (t := 5001) rfl SubB.nil))
      · replace h := bif_f h hb6
        refine Cod.seq ?_
        refine Cod.region [] mixed (by kernel_rfl) ?_
        refine Chain.cons (StepOK.eqI .none (.tmp rfl (fun _ => trivial)) (.int (by decide))) rfl ?_
        refine Chain.cons (StepOK.assign .none (.tmp rfl (fun _ => trivial))) rfl ?_
        refine Chain.nil ?_
        refine Ends.then ?_
        refine Cod.cond (t := 47) rfl trivial (fun hb12 => ?_) (fun hb12 => ?_)
        · replace h := bif_t h hb12
          refine Cod.seq ?_
          refine Cod.region [([], []), ([], []), ([], []), ([], []), ([], []), ([5002], [5002]), ([], []), ([5002], [5002])] mixed (by kernel_rfl) ?_
          refine Chain.consA (StepOK.move .none (.tmp rfl (fun _ => trivial))) rfl ?_
          obtain ⟨v8, hv13, h⟩ := bnd_some h
          refine Chain.consA (StepOK.re hv13 (StepOK.quo .none (.tmp rfl (fun _ => trivial)) (.int (by decide)) (fun _ => by decide))) rfl ?_
          refine Chain.consA (StepOK.move .none (.tmp rfl (fun _ => trivial))) rfl ?_
          obtain ⟨v9, hv14, h⟩ := bnd_some h
          refine Chain.consA (StepOK.re hv14 (StepOK.quo .none (.tmp rfl (fun _ => trivial)) (.int (by decide)) (fun _ => by decide))) rfl ?_
          refine Chain.consA (StepOK.fieldPtr .none fd48_2 (.tmp rfl (fun _ => trivial))) rfl ?_
          refine Chain.consN (StepOK.storeAt (g := 5002) ty3 rfl (.tmp rfl (fun _ => trivial)) sf48_2 (.tmp rfl (fun _ => trivial))) rfl ?_
          refine Chain.consA (StepOK.fieldPtr .none fd48_3 (.tmp rfl (fun _ => trivial))) rfl ?_
          refine Chain.consN (StepOK.storeAt (g := 5002) ty3 rfl (.tmp rfl (fun _ => trivial)) sf48_3 (.tmp rfl (fun _ => trivial))) rfl ?_
          refine Chain.nil ?_
          refine Ends.then ?_
          obtain ⟨b2, hv15, h⟩ := bnd_some h
          refine Cod.reB (t := 5002) rfl (congrArg (fun y => boxAt m5002 48 y) hv15) ?_
          refine Cod.region [([], []), ([], []), ([5002], []), ([], []), ([], []), ([], []), ([], []), ([5002], []), ([], []), ([], []), ([], []), ([5002], [5002]), ([], []), ([5002], [5002])] mixed (by kernel_rfl) ?_
          refine Chain.consA (StepOK.move .none (.tmp rfl (fun _ => trivial))) rfl ?_
          refine Chain.consA (StepOK.fieldPtr .none fd48_2 (.tmp rfl (fun _ => trivial))) rfl ?_
          refine Chain.consA (StepOK.loadAt (k := 5002) .none ty3 rfl (.tmp rfl (fun _ => trivial)) hfd48_2) rfl ?_
          refine Chain.consA (StepOK.subW .none (.tmp rfl (fun _ => trivial)) (.tmp rfl (fun _ => trivial))) rfl ?_
          obtain ⟨v10, hv16, h⟩ := bnd_some h
          refine Chain.consA (StepOK.re hv16 (StepOK.quo .none (.tmp rfl (fun _ => trivial)) (.int (by decide)) (fun _ => by decide))) rfl ?_
          refine Chain.consA (StepOK.move .none (.tmp rfl (fun _ => trivial))) rfl ?_
          refine Chain.consA (StepOK.fieldPtr .none fd48_3 (.tmp rfl (fun _ => trivial))) rfl ?_
          refine Chain.consA (StepOK.loadAt (k := 5002) .none ty3 rfl (.tmp rfl (fun _ => trivial)) hfd48_3) rfl ?_
          refine Chain.consA (StepOK.subW .none (.tmp rfl (fun _ => trivial)) (.tmp rfl (fun _ => trivial))) rfl ?_
          obtain ⟨v11, hv17, h⟩ := bnd_some h
          refine Chain.consA (StepOK.re hv17 (StepOK.quo .none (.tmp rfl (fun _ => trivial)) (.int (by decide)) (fun _ => by decide))) rfl ?_
          refine Chain.consA (StepOK.fieldPtr .none fd48_0 (.tmp rfl (fun _ => trivial))) rfl ?_
          refine Chain.consN (StepOK.storeAt (g := 5002) ty3 rfl (.tmp rfl (fun _ => trivial)) sf48_0 (.tmp rfl (fun _ => trivial))) rfl ?_
          refine Chain.consA (StepOK.fieldPtr .none fd48_1 (.tmp rfl (fun _ => trivial))) rfl ?_
          refine Chain.consN (StepOK.storeAt (g := 5002) ty3 rfl (.tmp rfl (fun _ => trivial)) sf48_1 (.tmp rfl (fun _ => trivial))) rfl ?_
          refine Chain.nil ?_
          refine Ends.blkNormal ?_
          exact Ends.join _ (some_eq h) (.cons (t := 3) rfl (.cons (t := 8) rfl (.cons (t := 9) rfl Sub.nil))) (.cons (t := 5002) rfl (.cons (t := 5001) rfl SubB.nil))
        · replace h := bif_f h hb12
          refine Cod.skip ?_
          refine Ends.blkNormal ?_
          exact Ends.join _ (some_eq h) (.cons (t := 3) rfl (.cons (t := 8) rfl (.cons (t := 9) rfl Sub.nil))) (.cons (t := 5002) rfl (.cons (t := 5001) rfl SubB.nil))
  · subst hj3; have h := hK3; clear hK3
    refine Cod.freezeBox (g := 5002) (ts := [9]) rfl (.cons (t := 9) rfl trivial .nil) (.cons (t := 5001) rfl SubB.nil) rfl ?_
    refine Cod.seq ?_
    refine Cod.region [([], []), ([], []), ([], []), ([], []), ([], []), ([], []), ([], []), ([], []), ([], []), ([], []), ([], []), ([], []), ([], []), ([], []), ([], []), ([], []), ([], []), ([], []), ([], []), ([5001], [5001])] mixed (by kernel_rfl) ?_
    refine Chain.consA (StepOK.fieldAddr .none fd48_0 hfd48_0 (.tmp rfl (fun _ => trivial))) rfl ?_
    refine Chain.consA (StepOK.load .none ty3 (.tmp rfl (fun _ => trivial))) rfl ?_
    refine Chain.consA (StepOK.move .none (.tmp rfl (fun _ => trivial))) rfl ?_
    refine Chain.consA (StepOK.addW .none (.tmp rfl (fun _ => trivial)) (.tmp rfl (fun _ => trivial))) rfl ?_
    refine Chain.consA (StepOK.fieldAddr .none fd48_1 hfd48_1 (.tmp rfl (fun _ => trivial))) rfl ?_
    refine Chain.consA (StepOK.load .none ty3 (.tmp rfl (fun _ => trivial))) rfl ?_
    refine Chain.consA (StepOK.move .none (.tmp rfl (fun _ => trivial))) rfl ?_
    refine Chain.consA (StepOK.addW .none (.tmp rfl (fun _ => trivial)) (.tmp rfl (fun _ => trivial))) rfl ?_
    refine Chain.consA (StepOK.fieldAddr .none fd48_2 hfd48_2 (.tmp rfl (fun _ => trivial))) rfl ?_
    refine Chain.consA (StepOK.load .none ty3 (.tmp rfl (fun _ => trivial))) rfl ?_
    refine Chain.consA (StepOK.move .none (.tmp rfl (fun _ => trivial))) rfl ?_
    refine Chain.consA (StepOK.mulW .none (.int (by decide)) (.tmp rfl (fun _ => trivial))) rfl ?_
    refine Chain.consA (StepOK.subW .none (.tmp rfl (fun _ => trivial)) (.tmp rfl (fun _ => trivial))) rfl ?_
    refine Chain.consA (StepOK.fieldAddr .none fd48_3 hfd48_3 (.tmp rfl (fun _ => trivial))) rfl ?_
    refine Chain.consA (StepOK.load .none ty3 (.tmp rfl (fun _ => trivial))) rfl ?_
    refine Chain.consA (StepOK.move .none (.tmp rfl (fun _ => trivial))) rfl ?_
    refine Chain.consA (StepOK.mulW .none (.int (by decide)) (.tmp rfl (fun _ => trivial))) rfl ?_
    refine Chain.consA (StepOK.subW .none (.tmp rfl (fun _ => trivial)) (.tmp rfl (fun _ => trivial))) rfl ?_
    obtain ⟨v12, hv18, h⟩ := bnd_some h
    refine Chain.consA (StepOK.re hv18 (StepOK.buildF (y := (⟨W (j_3.X + pad1), W (j_3.Y + pad1), W (j_3.W_ - (W (2 * pad1))), W (j_3.H - (W (2 * pad1)))⟩ : Box)) .none bu48 zc48 rfl (.cons (.tmp rfl (fun _ => trivial)) (.cons (.tmp rfl (fun _ => trivial)) (.cons (.tmp rfl (fun _ => trivial)) (.cons (.tmp rfl (fun _ => trivial)) .nil)))) (.cons rfl sf48_0 (.cons rfl sf48_1 (.cons rfl sf48_2 (.cons rfl sf48_3 .nil)))))) rfl ?_
    refine Chain.consN (StepOK.storeAt0 (g := 5001) ty48 rfl (.tmp rfl (fun _ => trivial)) (.tmp rfl (fun _ => trivial))) rfl ?_
    refine Chain.nil ?_
    refine Ends.then ?_
    refine Cod.freezeBox (g := 5001) (ts := [8]) rfl (.cons (t := 8) rfl trivial .nil) SubB.nil rfl ?_
    refine Cod.ret ?_
    obtain rfl := some_eq h
    exact Ends.ret1 (.inl rfl) Tryd.results55 (ResOK.cellR ty48 rfl trivial Imp.refl)

theorem shape_Fit_ok {f1 : Font} {text1 : Str} {kind1 : Int} {pad1 : Int} {most1 : Int} {r : (Int × Int × Int)}  (h : shape_Fit f1 text1 kind1 pad1 most1 = some r) : FSpec Tryd.prog 25 [rep f1, rep text1, rep kind1, rep pad1, rep most1] (tup [rep r.1, rep r.2.1, rep r.2.2]) := by
  unfold shape_Fit at h
  refine FSpec.intro (n := 138) fnok25 Tryd.func25 rfl Tryd.ntmps25 rfl (fun F => ?_)
  refine Cod.seq ?_
  refine Cod.region [] mixed (by kernel_rfl) ?_
  refine Chain.cons (StepOK.box .none (.tmp rfl (fun _ => trivial))) rfl ?_
  refine Chain.cons (StepOK.assign .none (.int (by decide))) rfl ?_
  refine Chain.cons (StepOK.assign .none (.int (by decide))) rfl ?_
  refine Chain.cons (StepOK.assign .none (.int (by decide))) rfl ?_
  refine Chain.nil ?_
  refine Ends.then ?_
  refine Cod.seq ?_
  refine Cod.seq ?_
  refine Cod.region [] mixed (by kernel_rfl) ?_
  refine Chain.cons (StepOK.move .none (.tmp rfl (fun _ => trivial))) rfl ?_
  obtain ⟨r1, hv1, h⟩ := bind_some h
  refine Chain.cons (StepOK.call .none (shape_isKind_ok hv1) (.cons (.tmp rfl (fun _ => trivial)) .nil)) rfl ?_
  refine Chain.cons (StepOK.not .none (.tmp rfl (fun _ => trivial))) rfl ?_
  refine Chain.nil ?_
  refine Ends.then ?_
  refine Cod.cond (t := 26) rfl trivial (fun hb2 => ?_) (fun hb2 => ?_)
  · replace h := bif_t h hb2
    refine Cod.seq ?_
    refine Cod.region [] mixed (by kernel_rfl) ?_
    refine Chain.cons (StepOK.assign .none (.int (by decide))) rfl ?_
    refine Chain.cons (StepOK.assign .none (.int (by decide))) rfl ?_
    refine Chain.cons (StepOK.assign .none (.int (by decide))) rfl ?_
    refine Chain.nil ?_
    refine Ends.then ?_
    refine Cod.ret ?_
    refine Ends.thenRet ?_
    obtain rfl := some_eq h
    exact Ends.ret3 (.inl rfl) Tryd.results25 (ResOK.tmp rfl trivial Imp.refl) (ResOK.tmp rfl trivial Imp.refl) (ResOK.tmp rfl trivial Imp.refl)
  · replace h := bif_f h hb2
    refine Cod.skip ?_
    refine Ends.then ?_
    refine Cod.seq ?_
    refine Cod.seq ?_
    refine Cod.region [] mixed (by kernel_rfl) ?_
    refine Chain.cons (StepOK.load .none ty23 (.tmp rfl (fun _ => trivial))) rfl ?_
    refine Chain.cons (StepOK.move .none (.tmp rfl (fun _ => trivial))) rfl ?_
    obtain ⟨e1, hv3, h⟩ := bind_some h
    refine Chain.cons (StepOK.call .none (shape_checkBoth_ok hv3) (.cons (.tmp rfl (fun _ => trivial)) (.cons (.tmp rfl (fun _ => trivial)) .nil))) rfl ?_
    refine Chain.cons (StepOK.assign .none (.tmp rfl (fun _ => trivial))) rfl ?_
    refine Chain.nil ?_
    refine Ends.then ?_
    refine Cod.seq ?_
    refine Cod.region [] mixed (by kernel_rfl) ?_
    refine Chain.cons (StepOK.move .none (.tmp rfl (fun _ => trivial))) rfl ?_
    refine Chain.cons (StepOK.neI .none (.tmp rfl (fun _ => trivial)) (.int (by decide))) rfl ?_
    refine Chain.nil ?_
    refine Ends.then ?_
    refine Cod.cond (t := 31) rfl trivial (fun hb4 => ?_) (fun hb4 => ?_)
    · replace h := bif_t h hb4
      refine Cod.seq ?_
      refine Cod.region [] mixed (by kernel_rfl) ?_
      refine Chain.cons (StepOK.move .none (.tmp rfl (fun _ => trivial))) rfl ?_
      refine Chain.cons (StepOK.assign .none (.int (by decide))) rfl ?_
      refine Chain.cons (StepOK.assign .none (.int (by decide))) rfl ?_
      refine Chain.cons (StepOK.assign .none (.tmp rfl (fun _ => trivial))) rfl ?_
      refine Chain.nil ?_
      refine Ends.then ?_
      refine Cod.ret ?_
      refine Ends.thenRet ?_
      obtain rfl := some_eq h
      exact Ends.ret3 (.inl rfl) Tryd.results25 (ResOK.tmp rfl trivial Imp.refl) (ResOK.tmp rfl trivial Imp.refl) (ResOK.tmp rfl trivial Imp.refl)
    · replace h := bif_f h hb4
      refine Cod.skip ?_
      refine Ends.then ?_
      refine Cod.seq ?_
      refine Cod.seq ?_
      refine Cod.region [] mixed (by kernel_rfl) ?_
      refine Chain.cons (StepOK.move .none (.tmp rfl (fun _ => trivial))) rfl ?_
      refine Chain.cons (StepOK.lt .none (.tmp rfl (fun _ => trivial)) (.int (by decide))) rfl ?_
      refine Chain.cons (StepOK.move .none (.tmp rfl (fun _ => trivial))) rfl ?_
      refine Chain.cons (StepOK.move (.at rfl rfl) (.tmp rfl (fun _ => trivial))) rfl ?_
      refine Chain.cons (StepOK.gt (.at rfl rfl) (.tmp rfl id) (.int (by decide))) rfl ?_
      refine Chain.cons (StepOK.pickOr .none (.tmp rfl (fun _ => trivial)) (.tmp rfl id)) rfl ?_
      refine Chain.cons (StepOK.move .none (.tmp rfl (fun _ => trivial))) rfl ?_
      refine Chain.cons (StepOK.move (.at rfl rfl) (.tmp rfl (fun _ => trivial))) rfl ?_
      refine Chain.cons (StepOK.lt (.at rfl rfl) (.tmp rfl id) (.int (by decide))) rfl ?_
      refine Chain.cons (StepOK.pickOr .none (.tmp rfl (fun _ => trivial)) (.tmp rfl id)) rfl ?_
      refine Chain.cons (StepOK.move .none (.tmp rfl (fun _ => trivial))) rfl ?_
      refine Chain.cons (StepOK.move (.at rfl rfl) (.tmp rfl (fun _ => trivial))) rfl ?_
      refine Chain.cons (StepOK.gt (.at rfl rfl) (.tmp rfl id) (.int (by decide))) rfl ?_
      refine Chain.cons (StepOK.pickOr .none (.tmp rfl (fun _ => trivial)) (.tmp rfl id)) rfl ?_
      refine Chain.nil ?_
      refine Ends.then ?_
      refine Cod.cond (t := 46) rfl trivial (fun hb5 => ?_) (fun hb5 => ?_)
      · replace h := bif_t h hb5
        refine Cod.seq ?_
        refine Cod.region [] mixed (by kernel_rfl) ?_
        refine Chain.cons (StepOK.assign .none (.int (by decide))) rfl ?_
        refine Chain.cons (StepOK.assign .none (.int (by decide))) rfl ?_
        refine Chain.cons (StepOK.assign .none (.int (by decide))) rfl ?_
        refine Chain.nil ?_
        refine Ends.then ?_
        refine Cod.ret ?_
        refine Ends.thenRet ?_
        obtain rfl := some_eq h
        exact Ends.ret3 (.inl rfl) Tryd.results25 (ResOK.tmp rfl trivial Imp.refl) (ResOK.tmp rfl trivial Imp.refl) (ResOK.tmp rfl trivial Imp.refl)
      · replace h := bif_f h hb5
        refine Cod.skip ?_
        refine Ends.then ?_
        refine Cod.seq ?_
        refine Cod.region [] mixed (by kernel_rfl) ?_
        refine Chain.cons (StepOK.assign .none (.int (by decide))) rfl ?_
        refine Chain.nil ?_
        refine Ends.then ?_
        refine Cod.seq ?_
        refine Cod.seq ?_
        refine Cod.region [] mixed (by kernel_rfl) ?_
        refine Chain.cons (StepOK.move .none (.tmp rfl (fun _ => trivial))) rfl ?_
        obtain ⟨r2, hv6, h⟩ := bind_some h
        refine Chain.cons (StepOK.call .none (strings_Split_ok hv6).frz (.cons (.tmp rfl (fun _ => trivial)) (.cons (.str (l := [10]) (by decide)) .nil))) rfl ?_
        refine Chain.cons (StepOK.len .none sl30 (.tmp rfl (fun _ => trivial))) rfl ?_
        refine Chain.cons (StepOK.move .none (.int (by decide))) rfl ?_
        refine Chain.nil ?_
        refine Ends.then ?_
        obtain ⟨j_7, h, hK7⟩ := bind_some h
        refine Cod.thenJ (ι := Int) (fun j_7 => [(14, ⟨True, rep j_7⟩)]) (fun j_7 => []) (fun s => j_7 = s) (.cons (t := 1) rfl (.cons (t := 2) rfl (.cons (t := 3) rfl (.cons (t := 4) rfl (.cons (t := 5) rfl Sub.nil))))) SubB.nil ?_ (fun j_7' hj7 => ?_)
        · skip
          refine Cod.block ?_
          refine Cod.rforL h (fun p8_ => [(50, ⟨True, rep p8_.1⟩), (14, ⟨True, rep p8_.2⟩)]) (fun p8_ => []) (.cons (t := 50) rfl (.cons (t := 14) rfl Sub.nil)) SubB.nil (.cons (t := 1) rfl (.cons (t := 2) rfl (.cons (t := 3) rfl (.cons (t := 4) rfl (.cons (t := 5) rfl (.cons (t := 48) rfl (.cons (t := 49) rfl Sub.nil))))))) SubB.nil (fun p8_ o_8 h hD8 => ?_)
          refine Cod.seq ?_
          refine Cod.region [] mixed (by kernel_rfl) ?_
          refine Chain.cons (StepOK.lt .none (.tmp rfl (fun _ => trivial)) (.tmp rfl (fun _ => trivial))) rfl ?_
          refine Chain.nil ?_
          refine Ends.then ?_
          refine Cod.seq ?_
          refine Cod.cond (t := 51) rfl trivial (fun hb9 => ?_) (fun hb9 => ?_)
          · replace h := bif_t h hb9
            refine Cod.skip ?_
            refine Ends.then ?_
            refine Cod.seq ?_
            obtain ⟨j_10, h, hK10⟩ := bind_some h
            unfold shape_Fit_L1 at h
            refine Cod.thenJ (ι := Int) (fun j_10 => [(14, ⟨True, rep j_10⟩)]) (fun j_10 => []) (fun s => j_10 = s) (.cons (t := 1) rfl (.cons (t := 2) rfl (.cons (t := 3) rfl (.cons (t := 4) rfl (.cons (t := 5) rfl (.cons (t := 48) rfl (.cons (t := 49) rfl (.cons (t := 50) rfl Sub.nil)))))))) SubB.nil ?_ (fun j_10' hj10 => ?_)
            · skip
              refine Cod.block ?_
              refine Cod.seq ?_
              refine Cod.region [] mixed (by kernel_rfl) ?_
              obtain ⟨hn11, h⟩ := need_some h
              refine Chain.cons (StepOK.indexAddr .none sl30 ty9 (.tmp rfl (fun _ => trivial)) (.tmp rfl (fun _ => trivial)) (fun _ => hn11)) rfl ?_
              refine Chain.cons (StepOK.load .none ty9 (.tmp rfl (fun _ => trivial))) rfl ?_
              refine Chain.cons (StepOK.assign .none (.tmp rfl (fun _ => trivial))) rfl ?_
              refine Chain.nil ?_
              refine Ends.then ?_
              refine Cod.region [] mixed (by kernel_rfl) ?_
              refine Chain.cons (StepOK.move .none (.tmp rfl (fun _ => trivial))) rfl ?_
              refine Chain.cons (StepOK.load .none ty23 (.tmp rfl (fun _ => trivial))) rfl ?_
              refine Chain.cons (StepOK.move .none (.tmp rfl (fun _ => trivial))) rfl ?_
              obtain ⟨r3, hv12, h⟩ := bind_some h
              refine Chain.cons (StepOK.call .none (shape_wordsOf_ok hv12) (.cons (.tmp rfl (fun _ => trivial)) .nil)) rfl ?_
              obtain ⟨r4, hv13, h⟩ := bind_some h
              refine Chain.cons (StepOK.call .none (shape_widest_ok hv13) (.cons (.tmp rfl (fun _ => trivial)) (.cons (.tmp rfl (fun _ => trivial)) .nil))) rfl ?_
              refine Chain.cons (StepOK.max2 .none (.tmp rfl (fun _ => trivial)) (.tmp rfl (fun _ => trivial))) rfl ?_
              obtain ⟨least1, hv14, h⟩ := bnd_some h
              refine Chain.cons (StepOK.re hv14 (StepOK.assign .none (.tmp rfl (fun _ => trivial)))) rfl ?_
              refine Chain.nil ?_
              refine Ends.blkNormal ?_
              exact Ends.join _ (some_eq h) (.cons (t := 14) rfl (.cons (t := 1) rfl (.cons (t := 2) rfl (.cons (t := 3) rfl (.cons (t := 4) rfl (.cons (t := 5) rfl (.cons (t := 48) rfl (.cons (t := 49) rfl (.cons (t := 50) rfl Sub.nil))))))))) SubB.nil
            · subst hj10; have h := hK10; clear hK10
              refine Cod.region [] mixed (by kernel_rfl) ?_
              refine Chain.cons (StepOK.addW .none (.tmp rfl (fun _ => trivial)) (.int (by decide))) rfl ?_
              refine Chain.cons (StepOK.move .none (.tmp rfl (fun _ => trivial))) rfl ?_
              refine Chain.nil ?_
              exact Ends.againL (some_eq h) (.cons (t := 50) rfl (.cons (t := 14) rfl (.cons (t := 1) rfl (.cons (t := 2) rfl (.cons (t := 3) rfl (.cons (t := 4) rfl (.cons (t := 5) rfl (.cons (t := 48) rfl (.cons (t := 49) rfl Sub.nil))))))))) SubB.nil
          · replace h := bif_f h hb9
            refine Cod.exit ?_
            refine Ends.thenExit ?_
            refine Ends.thenExit ?_
            refine Ends.blkExit ?_
            replace h := hD8 _ (some_eq h)
            exact Ends.join _ (some_eq h) (.cons (t := 14) rfl (.cons (t := 1) rfl (.cons (t := 2) rfl (.cons (t := 3) rfl (.cons (t := 4) rfl (.cons (t := 5) rfl Sub.nil)))))) SubB.nil
        · subst hj7; have h := hK7; clear hK7
          refine Cod.seq ?_
          refine Cod.seq ?_
          refine Cod.region [] mixed (by kernel_rfl) ?_
          refine Chain.cons (StepOK.move .none (.tmp rfl (fun _ => trivial))) rfl ?_
          refine Chain.cons (StepOK.move .none (.tmp rfl (fun _ => trivial))) rfl ?_
          refine Chain.cons (StepOK.gt .none (.tmp rfl (fun _ => trivial)) (.tmp rfl (fun _ => trivial))) rfl ?_
          refine Chain.nil ?_
          refine Ends.then ?_
          refine Cod.cond (t := 63) rfl trivial (fun hb15 => ?_) (fun hb15 => ?_)
          · replace h := bif_t h hb15
            refine Cod.seq ?_
            refine Cod.region [] mixed (by kernel_rfl) ?_
            refine Chain.cons (StepOK.assign .none (.int (by decide))) rfl ?_
            refine Chain.cons (StepOK.assign .none (.int (by decide))) rfl ?_
            refine Chain.cons (StepOK.assign .none (.int (by decide))) rfl ?_
            refine Chain.nil ?_
            refine Ends.then ?_
            refine Cod.ret ?_
            refine Ends.thenRet ?_
            obtain rfl := some_eq h
            exact Ends.ret3 (.inl rfl) Tryd.results25 (ResOK.tmp rfl trivial Imp.refl) (ResOK.tmp rfl trivial Imp.refl) (ResOK.tmp rfl trivial Imp.refl)
          · replace h := bif_f h hb15
            refine Cod.skip ?_
            refine Ends.then ?_
            refine Cod.seq ?_
            refine Cod.region [] mixed (by kernel_rfl) ?_
            refine Chain.cons (StepOK.assign .none (.int (by decide))) rfl ?_
            refine Chain.cons (StepOK.assign .none (.int (by decide))) rfl ?_
            refine Chain.cons (StepOK.assign .none (.int (by decide))) rfl ?_
            refine Chain.nil ?_
            refine Ends.then ?_
            refine Cod.seq ?_
            refine Cod.seq ?_
            refine Cod.region [] mixed (by kernel_rfl) ?_
            refine Chain.cons (StepOK.move .none (.tmp rfl (fun _ => trivial))) rfl ?_
            refine Chain.cons (StepOK.assign .none (.tmp rfl (fun _ => trivial))) rfl ?_
            refine Chain.nil ?_
            refine Ends.then ?_
            obtain ⟨j_16, h, hK16⟩ := bind_some h
            refine Cod.thenJ (ι := (Int × Int)) (fun j_16 => [(17, ⟨True, rep j_16.1⟩), (18, ⟨True, rep j_16.2⟩)]) (fun j_16 => []) (fun s => j_16 = s) (.cons (t := 2) rfl (.cons (t := 3) rfl Sub.nil)) SubB.nil ?_ (fun j_16' hj16 => ?_)
            · skip
              refine Cod.block ?_
              refine Cod.loopL h (fun s17_ => [(17, ⟨True, rep s17_.1⟩), (18, ⟨True, rep s17_.2.1⟩), (19, ⟨True, rep s17_.2.2.1⟩), (20, ⟨True, rep s17_.2.2.2⟩)]) (fun s17_ => []) (.cons (t := 17) rfl (.cons (t := 18) rfl (.cons (t := 19) rfl (.cons (t := 20) rfl Sub.nil)))) SubB.nil (.cons (t := 1) rfl (.cons (t := 2) rfl (.cons (t := 3) rfl (.cons (t := 4) rfl (.cons (t := 5) rfl Sub.nil))))) SubB.nil (fun s17_ o_17 h hD17 => ?_)
              unfold shape_Fit_L2 at h
              refine Cod.seq ?_
              refine Cod.seq ?_
              refine Cod.region [] mixed (by kernel_rfl) ?_
              refine Chain.cons (StepOK.move .none (.tmp rfl (fun _ => trivial))) rfl ?_
              refine Chain.cons (StepOK.move .none (.tmp rfl (fun _ => trivial))) rfl ?_
              refine Chain.cons (StepOK.le .none (.tmp rfl (fun _ => trivial)) (.tmp rfl (fun _ => trivial))) rfl ?_
              refine Chain.nil ?_
              refine Ends.then ?_
              refine Cod.cond (t := 67) rfl trivial (fun hb18 => ?_) (fun hb18 => ?_)
              · replace h := bif_t h hb18
                refine Cod.skip ?_
                refine Ends.then ?_
                refine Cod.seq ?_
                refine Cod.block ?_
                refine Cod.seq ?_
                refine Cod.region [] mixed (by kernel_rfl) ?_
                refine Chain.cons (StepOK.load .none ty23 (.tmp rfl (fun _ => trivial))) rfl ?_
                refine Chain.cons (StepOK.move .none (.tmp rfl (fun _ => trivial))) rfl ?_
                refine Chain.cons (StepOK.move .none (.tmp rfl (fun _ => trivial))) rfl ?_
                obtain ⟨lines1, hv19, h⟩ := bind_some h
                refine Chain.cons (StepOK.call .none (shape_wrap_ok hv19) (.cons (.tmp rfl (fun _ => trivial)) (.cons (.tmp rfl (fun _ => trivial)) (.cons (.tmp rfl (fun _ => trivial)) .nil)))) rfl ?_
                refine Chain.cons (StepOK.assign .none (.tmp rfl (fun _ => trivial))) rfl ?_
                refine Chain.nil ?_
                refine Ends.then ?_
                refine Cod.seq ?_
                refine Cod.region [] mixed (by kernel_rfl) ?_
                refine Chain.cons (StepOK.load .none ty23 (.tmp rfl (fun _ => trivial))) rfl ?_
                refine Chain.cons (StepOK.move .none (.tmp rfl (fun _ => trivial))) rfl ?_
                obtain ⟨r5, hv20, h⟩ := bind_some h
                refine Chain.cons (StepOK.call .none (shape_widest_ok hv20) (.cons (.tmp rfl (fun _ => trivial)) (.cons (.tmp rfl (fun _ => trivial)) .nil))) rfl ?_
                refine Chain.cons (StepOK.max2 .none (.tmp rfl (fun _ => trivial)) (.int (by decide))) rfl ?_
                refine Chain.cons (StepOK.move .none (.tmp rfl (fun _ => trivial))) rfl ?_
                refine Chain.cons (StepOK.len .none sl30 (.tmp rfl (fun _ => trivial))) rfl ?_
                refine Chain.cons (StepOK.fieldAddr .none fd23_0 hfd23_0 (.tmp rfl (fun _ => trivial))) rfl ?_
                refine Chain.cons (StepOK.load .none ty3 (.tmp rfl (fun _ => trivial))) rfl ?_
                refine Chain.cons (StepOK.mulW .none (.tmp rfl (fun _ => trivial)) (.tmp rfl (fun _ => trivial))) rfl ?_
                obtain ⟨a1, hv21, h⟩ := bnd_some h
                refine Chain.cons (StepOK.re hv21 (StepOK.assign .none (.tmp rfl (fun _ => trivial)))) rfl ?_
                obtain ⟨b1, hv22, h⟩ := bnd_some h
                refine Chain.cons (StepOK.re hv22 (StepOK.assign .none (.tmp rfl (fun _ => trivial)))) rfl ?_
                refine Chain.nil ?_
                refine Ends.then ?_
                refine Cod.seq ?_
                refine Cod.seq ?_
                refine Cod.region [] mixed (by kernel_rfl) ?_
                refine Chain.cons (StepOK.move .none (.tmp rfl (fun _ => trivial))) rfl ?_
                refine Chain.cons (StepOK.lt .none (.tmp rfl (fun _ => trivial)) (.int (by decide))) rfl ?_
                refine Chain.cons (StepOK.move .none (.tmp rfl (fun _ => trivial))) rfl ?_
                refine Chain.cons (StepOK.move (.at rfl rfl) (.tmp rfl (fun _ => trivial))) rfl ?_
                refine Chain.cons (StepOK.move (.at rfl rfl) (.tmp rfl (fun _ => trivial))) rfl ?_
                refine Chain.cons (StepOK.addW (.at rfl rfl) (.tmp rfl id) (.tmp rfl id)) rfl ?_
                refine Chain.cons (StepOK.move (.at rfl rfl) (.tmp rfl (fun _ => trivial))) rfl ?_
                refine Chain.cons (StepOK.lt (.at rfl rfl) (.tmp rfl id) (.tmp rfl id)) rfl ?_
                refine Chain.cons (StepOK.pickOr .none (.tmp rfl (fun _ => trivial)) (.tmp rfl id)) rfl ?_
                refine Chain.nil ?_
                refine Ends.then ?_
                obtain ⟨j_23, h, hK23⟩ := bind_some h
                refine Cod.thenJ (ι := (Int × Int × Int)) (fun j_23 => [(17, ⟨True, rep j_23.1⟩), (18, ⟨True, rep j_23.2.1⟩), (19, ⟨True, rep j_23.2.2⟩)]) (fun j_23 => []) (fun s => j_23 = s) (.cons (t := 1) rfl (.cons (t := 2) rfl (.cons (t := 3) rfl (.cons (t := 4) rfl (.cons (t := 5) rfl (.cons (t := 20) rfl (.cons (t := 21) rfl Sub.nil))))))) SubB.nil ?_ (fun j_23' hj23 => ?_)
                · skip
                  refine Cod.cond (t := 91) rfl trivial (fun hb24 => ?_) (fun hb24 => ?_)
                  · replace h := bif_t h hb24
                    refine Cod.region [] mixed (by kernel_rfl) ?_
                    refine Chain.cons (StepOK.move .none (.tmp rfl (fun _ => trivial))) rfl ?_
                    refine Chain.cons (StepOK.move .none (.tmp rfl (fun _ => trivial))) rfl ?_
                    refine Chain.cons (StepOK.move .none (.tmp rfl (fun _ => trivial))) rfl ?_
                    refine Chain.cons (StepOK.move .none (.tmp rfl (fun _ => trivial))) rfl ?_
                    refine Chain.cons (StepOK.addW .none (.tmp rfl (fun _ => trivial)) (.tmp rfl (fun _ => trivial))) rfl ?_
                    refine Chain.cons (StepOK.assign .none (.tmp rfl (fun _ => trivial))) rfl ?_
                    refine Chain.cons (StepOK.assign .none (.tmp rfl (fun _ => trivial))) rfl ?_
                    obtain ⟨best1, hv25, h⟩ := bnd_some h
                    refine Chain.cons (StepOK.re hv25 (StepOK.assign .none (.tmp rfl (fun _ => trivial)))) rfl ?_
                    refine Chain.nil ?_
                    exact Ends.join _ (some_eq h) (.cons (t := 17) rfl (.cons (t := 18) rfl (.cons (t := 19) rfl (.cons (t := 1) rfl (.cons (t := 2) rfl (.cons (t := 3) rfl (.cons (t := 4) rfl (.cons (t := 5) rfl (.cons (t := 20) rfl (.cons (t := 21) rfl Sub.nil)))))))))) SubB.nil
                  · replace h := bif_f h hb24
                    refine Cod.skip ?_
                    exact Ends.join _ (some_eq h) (.cons (t := 17) rfl (.cons (t := 18) rfl (.cons (t := 19) rfl (.cons (t := 1) rfl (.cons (t := 2) rfl (.cons (t := 3) rfl (.cons (t := 4) rfl (.cons (t := 5) rfl (.cons (t := 20) rfl (.cons (t := 21) rfl Sub.nil)))))))))) SubB.nil
                · subst hj23; have h := hK23; clear hK23
                  refine Cod.seq ?_
                  refine Cod.region [] mixed (by kernel_rfl) ?_
                  refine Chain.cons (StepOK.move .none (.tmp rfl (fun _ => trivial))) rfl ?_
                  refine Chain.cons (StepOK.len .none sl30 (.tmp rfl (fun _ => trivial))) rfl ?_
                  refine Chain.cons (StepOK.move .none (.tmp rfl (fun _ => trivial))) rfl ?_
                  obtain ⟨r6, hv26, h⟩ := bind_some h
                  refine Chain.cons (StepOK.call .none (strings_Count_ok hv26) (.cons (.tmp rfl (fun _ => trivial)) (.cons (.str (l := [10]) (by decide)) .nil))) rfl ?_
                  refine Chain.cons (StepOK.addW .none (.tmp rfl (fun _ => trivial)) (.int (by decide))) rfl ?_
                  refine Chain.cons (StepOK.eqI .none (.tmp rfl (fun _ => trivial)) (.tmp rfl (fun _ => trivial))) rfl ?_
                  refine Chain.nil ?_
                  refine Ends.then ?_
                  refine Cod.cond (t := 102) rfl trivial (fun hb27 => ?_) (fun hb27 => ?_)
                  · replace h := bif_t h hb27
                    refine Cod.exit ?_
                    refine Ends.blkExitNe (by decide) ?_
                    refine Ends.thenExit ?_
                    refine Ends.thenExit ?_
                    refine Ends.blkExit ?_
                    replace h := hD17 _ (some_eq h)
                    exact Ends.join _ (some_eq h) (.cons (t := 17) rfl (.cons (t := 18) rfl (.cons (t := 2) rfl (.cons (t := 3) rfl Sub.nil)))) SubB.nil
                  · replace h := bif_f h hb27
                    refine Cod.skip ?_
                    refine Ends.blkNormal ?_
                    refine Ends.then ?_
                    refine Cod.region [] mixed (by kernel_rfl) ?_
                    refine Chain.cons (StepOK.move .none (.tmp rfl (fun _ => trivial))) rfl ?_
                    refine Chain.cons (StepOK.addW .none (.tmp rfl (fun _ => trivial)) (.int (by decide))) rfl ?_
                    obtain ⟨width1, hv28, h⟩ := bnd_some h
                    refine Chain.cons (StepOK.re hv28 (StepOK.assign .none (.tmp rfl (fun _ => trivial)))) rfl ?_
                    refine Chain.nil ?_
                    exact Ends.againL (some_eq h) (.cons (t := 17) rfl (.cons (t := 18) rfl (.cons (t := 19) rfl (.cons (t := 20) rfl (.cons (t := 1) rfl (.cons (t := 2) rfl (.cons (t := 3) rfl (.cons (t := 4) rfl (.cons (t := 5) rfl Sub.nil))))))))) SubB.nil
              · replace h := bif_f h hb18
                refine Cod.exit ?_
                refine Ends.thenExit ?_
                refine Ends.thenExit ?_
                refine Ends.blkExit ?_
                replace h := hD17 _ (some_eq h)
                exact Ends.join _ (some_eq h) (.cons (t := 17) rfl (.cons (t := 18) rfl (.cons (t := 2) rfl (.cons (t := 3) rfl Sub.nil)))) SubB.nil
            · subst hj16; have h := hK16; clear hK16
              refine Cod.seq ?_
              refine Cod.seq ?_
              refine Cod.region [] mixed (by kernel_rfl) ?_
              refine Chain.cons (StepOK.assign .none (.int (by decide))) rfl ?_
              refine Chain.nil ?_
              refine Ends.then ?_
              obtain ⟨j_29, h, hK29⟩ := bind_some h
              refine Cod.thenJ (ι := Int) (fun j_29 => [(11, ⟨True, rep j_29⟩)]) (fun j_29 => []) (fun s => j_29 = s) (.cons (t := 2) rfl (.cons (t := 3) rfl (.cons (t := 17) rfl Sub.nil))) SubB.nil ?_ (fun j_29' hj29 => ?_)
              · skip
                refine Cod.block ?_
                refine Cod.loopL h (fun s30_ => [(11, ⟨True, rep s30_⟩)]) (fun s30_ => []) (.cons (t := 11) rfl Sub.nil) SubB.nil (.cons (t := 2) rfl (.cons (t := 3) rfl (.cons (t := 17) rfl (.cons (t := 18) rfl Sub.nil)))) SubB.nil (fun s30_ o_30 h hD30 => ?_)
                unfold shape_Fit_L3 at h
                refine Cod.seq ?_
                refine Cod.seq ?_
                refine Cod.region [] mixed (by kernel_rfl) ?_
                refine Chain.cons (StepOK.move .none (.tmp rfl (fun _ => trivial))) rfl ?_
                refine Chain.cons (StepOK.le .none (.tmp rfl (fun _ => trivial)) (.int (by decide))) rfl ?_
                refine Chain.cons (StepOK.move .none (.tmp rfl (fun _ => trivial))) rfl ?_
                refine Chain.cons (StepOK.move (.at rfl rfl) (.tmp rfl (fun _ => trivial))) rfl ?_
                refine Chain.cons (StepOK.move (.at rfl rfl) (.tmp rfl (fun _ => trivial))) rfl ?_
                refine Chain.cons (StepOK.move (.at rfl rfl) (.tmp rfl (fun _ => trivial))) rfl ?_
                obtain ⟨r7, hv31, h⟩ := bind_some h
                refine Chain.cons (StepOK.callIf (.at rfl rfl) fnok55 (fun hg => shape_inner_ok ((fun hg => gd_some hv31 (hg.2)) hg)) (.cons (.tmp rfl id) (.cons (.int (by decide)) (.cons (.tmp rfl id) (.cons (.tmp rfl id) .nil)))) (fun h => h)) rfl ?_
                refine Chain.cons (StepOK.fieldV (proj := Box.H) (.at rfl rfl) ft48_3 ty3 hfd48_3 rfl (.tmp rfl id)) rfl ?_
                refine Chain.cons (StepOK.move (.at rfl rfl) (.tmp rfl (fun _ => trivial))) rfl ?_
                refine Chain.cons (StepOK.lt (.at rfl rfl) (.tmp rfl id) (.tmp rfl id)) rfl ?_
                refine Chain.cons (StepOK.pickAnd .none (.tmp rfl (fun _ => trivial)) (.tmp rfl id)) rfl ?_
                refine Chain.nil ?_
                refine Ends.then ?_
                refine Cod.cond (t := 113) rfl trivial (fun hb32 => ?_) (fun hb32 => ?_)
                · replace h := bif_t h hb32
                  refine Cod.skip ?_
                  refine Ends.then ?_
                  refine Cod.seq ?_
                  refine Cod.block ?_
                  refine Cod.skip ?_
                  refine Ends.blkNormal ?_
                  refine Ends.then ?_
                  refine Cod.region [] mixed (by kernel_rfl) ?_
                  refine Chain.cons (StepOK.move .none (.tmp rfl (fun _ => trivial))) rfl ?_
                  refine Chain.cons (StepOK.addW .none (.tmp rfl (fun _ => trivial)) (.int (by decide))) rfl ?_
                  obtain ⟨h1, hv33, h⟩ := bnd_some h
                  refine Chain.cons (StepOK.re hv33 (StepOK.assign .none (.tmp rfl (fun _ => trivial)))) rfl ?_
                  refine Chain.nil ?_
                  exact Ends.againL (some_eq h) (.cons (t := 11) rfl (.cons (t := 2) rfl (.cons (t := 3) rfl (.cons (t := 17) rfl (.cons (t := 18) rfl Sub.nil))))) SubB.nil
                · replace h := bif_f h hb32
                  refine Cod.exit ?_
                  refine Ends.thenExit ?_
                  refine Ends.thenExit ?_
                  refine Ends.blkExit ?_
                  replace h := hD30 _ (some_eq h)
                  exact Ends.join _ (some_eq h) (.cons (t := 11) rfl (.cons (t := 2) rfl (.cons (t := 3) rfl (.cons (t := 17) rfl Sub.nil)))) SubB.nil
              · subst hj29; have h := hK29; clear hK29
                refine Cod.seq ?_
                refine Cod.seq ?_
                refine Cod.region [] mixed (by kernel_rfl) ?_
                refine Chain.cons (StepOK.assign .none (.int (by decide))) rfl ?_
                refine Chain.nil ?_
                refine Ends.then ?_
                obtain ⟨j_34, h, hK34⟩ := bind_some h
                refine Cod.thenJ (ι := Int) (fun j_34 => [(10, ⟨True, rep j_34⟩)]) (fun j_34 => []) (fun s => j_34 = s) (.cons (t := 11) rfl Sub.nil) SubB.nil ?_ (fun j_34' hj34 => ?_)
                · skip
                  refine Cod.block ?_
                  refine Cod.loopL h (fun s35_ => [(10, ⟨True, rep s35_⟩)]) (fun s35_ => []) (.cons (t := 10) rfl Sub.nil) SubB.nil (.cons (t := 2) rfl (.cons (t := 3) rfl (.cons (t := 11) rfl (.cons (t := 17) rfl Sub.nil)))) SubB.nil (fun s35_ o_35 h hD35 => ?_)
                  unfold shape_Fit_L4 at h
                  refine Cod.seq ?_
                  refine Cod.seq ?_
                  refine Cod.region [] mixed (by kernel_rfl) ?_
                  refine Chain.cons (StepOK.move .none (.tmp rfl (fun _ => trivial))) rfl ?_
                  refine Chain.cons (StepOK.le .none (.tmp rfl (fun _ => trivial)) (.int (by decide))) rfl ?_
                  refine Chain.cons (StepOK.move .none (.tmp rfl (fun _ => trivial))) rfl ?_
                  refine Chain.cons (StepOK.move (.at rfl rfl) (.tmp rfl (fun _ => trivial))) rfl ?_
                  refine Chain.cons (StepOK.move (.at rfl rfl) (.tmp rfl (fun _ => trivial))) rfl ?_
                  refine Chain.cons (StepOK.move (.at rfl rfl) (.tmp rfl (fun _ => trivial))) rfl ?_
                  refine Chain.cons (StepOK.move (.at rfl rfl) (.tmp rfl (fun _ => trivial))) rfl ?_
                  obtain ⟨r8, hv36, h⟩ := bind_some h
                  refine Chain.cons (StepOK.callIf (.at rfl rfl) fnok55 (fun hg => shape_inner_ok ((fun hg => gd_some hv36 (hg.2)) hg)) (.cons (.tmp rfl id) (.cons (.tmp rfl id) (.cons (.tmp rfl id) (.cons (.tmp rfl id) .nil)))) (fun h => h)) rfl ?_
                  refine Chain.cons (StepOK.fieldV (proj := Box.W_) (.at rfl rfl) ft48_2 ty3 hfd48_2 rfl (.tmp rfl id)) rfl ?_
                  refine Chain.cons (StepOK.move (.at rfl rfl) (.tmp rfl (fun _ => trivial))) rfl ?_
                  refine Chain.cons (StepOK.lt (.at rfl rfl) (.tmp rfl id) (.tmp rfl id)) rfl ?_
                  refine Chain.cons (StepOK.pickAnd .none (.tmp rfl (fun _ => trivial)) (.tmp rfl id)) rfl ?_
                  refine Chain.nil ?_
                  refine Ends.then ?_
                  refine Cod.cond (t := 127) rfl trivial (fun hb37 => ?_) (fun hb37 => ?_)
                  · replace h := bif_t h hb37
                    refine Cod.skip ?_
                    refine Ends.then ?_
                    refine Cod.seq ?_
                    refine Cod.block ?_
                    refine Cod.skip ?_
                    refine Ends.blkNormal ?_
                    refine Ends.then ?_
                    refine Cod.region [] mixed (by kernel_rfl) ?_
                    refine Chain.cons (StepOK.move .none (.tmp rfl (fun _ => trivial))) rfl ?_
                    refine Chain.cons (StepOK.addW .none (.tmp rfl (fun _ => trivial)) (.int (by decide))) rfl ?_
                    obtain ⟨w1, hv38, h⟩ := bnd_some h
                    refine Chain.cons (StepOK.re hv38 (StepOK.assign .none (.tmp rfl (fun _ => trivial)))) rfl ?_
                    refine Chain.nil ?_
                    exact Ends.againL (some_eq h) (.cons (t := 10) rfl (.cons (t := 2) rfl (.cons (t := 3) rfl (.cons (t := 11) rfl (.cons (t := 17) rfl Sub.nil))))) SubB.nil
                  · replace h := bif_f h hb37
                    refine Cod.exit ?_
                    refine Ends.thenExit ?_
                    refine Ends.thenExit ?_
                    refine Ends.blkExit ?_
                    replace h := hD35 _ (some_eq h)
                    exact Ends.join _ (some_eq h) (.cons (t := 10) rfl (.cons (t := 11) rfl Sub.nil)) SubB.nil
                · subst hj34; have h := hK34; clear hK34
                  refine Cod.seq ?_
                  refine Cod.seq ?_
                  refine Cod.region [] mixed (by kernel_rfl) ?_
                  refine Chain.cons (StepOK.move .none (.tmp rfl (fun _ => trivial))) rfl ?_
                  refine Chain.cons (StepOK.gt .none (.tmp rfl (fun _ => trivial)) (.int (by decide))) rfl ?_
                  refine Chain.cons (StepOK.move .none (.tmp rfl (fun _ => trivial))) rfl ?_
                  refine Chain.cons (StepOK.move (.at rfl rfl) (.tmp rfl (fun _ => trivial))) rfl ?_
                  refine Chain.cons (StepOK.gt (.at rfl rfl) (.tmp rfl id) (.int (by decide))) rfl ?_
                  refine Chain.cons (StepOK.pickOr .none (.tmp rfl (fun _ => trivial)) (.tmp rfl id)) rfl ?_
                  refine Chain.nil ?_
                  refine Ends.then ?_
                  refine Cod.cond (t := 135) rfl trivial (fun hb39 => ?_) (fun hb39 => ?_)
                  · replace h := bif_t h hb39
                    refine Cod.seq ?_
                    refine Cod.region [] mixed (by kernel_rfl) ?_
                    refine Chain.cons (StepOK.assign .none (.int (by decide))) rfl ?_
                    refine Chain.cons (StepOK.assign .none (.int (by decide))) rfl ?_
                    refine Chain.cons (StepOK.assign .none (.int (by decide))) rfl ?_
                    refine Chain.nil ?_
                    refine Ends.then ?_
                    refine Cod.ret ?_
                    refine Ends.thenRet ?_
                    obtain rfl := some_eq h
                    exact Ends.ret3 (.inl rfl) Tryd.results25 (ResOK.tmp rfl trivial Imp.refl) (ResOK.tmp rfl trivial Imp.refl) (ResOK.tmp rfl trivial Imp.refl)
                  · replace h := bif_f h hb39
                    refine Cod.skip ?_
                    refine Ends.then ?_
                    refine Cod.seq ?_
                    refine Cod.region [] mixed (by kernel_rfl) ?_
                    refine Chain.cons (StepOK.move .none (.tmp rfl (fun _ => trivial))) rfl ?_
                    refine Chain.cons (StepOK.move .none (.tmp rfl (fun _ => trivial))) rfl ?_
                    refine Chain.cons (StepOK.assign .none (.tmp rfl (fun _ => trivial))) rfl ?_
                    refine Chain.cons (StepOK.assign .none (.tmp rfl (fun _ => trivial))) rfl ?_
                    refine Chain.cons (StepOK.assign .none (.int (by decide))) rfl ?_
                    refine Chain.nil ?_
                    refine Ends.then ?_
                    refine Cod.ret ?_
                    obtain rfl := some_eq h
                    exact Ends.ret3 (.inl rfl) Tryd.results25 (ResOK.tmp rfl trivial Imp.refl) (ResOK.tmp rfl trivial Imp.refl) (ResOK.tmp rfl trivial Imp.refl)

theorem geom_out_ok {n1 : Int} {r : Bool}  (h : geom_out n1 = some r) : FSpec Tryd.prog 82 [rep n1] (rep r) := by
  unfold geom_out at h
  refine FSpec.intro (n := 9) fnok82 Tryd.func82 rfl Tryd.ntmps82 rfl (fun F => ?_)
  refine Cod.seq ?_
  refine Cod.region [] mixed (by kernel_rfl) ?_
  refine Chain.cons (StepOK.assign .none .bool) rfl ?_
  refine Chain.nil ?_
  refine Ends.then ?_
  refine Cod.seq ?_
  refine Cod.region [] mixed (by kernel_rfl) ?_
  refine Chain.cons (StepOK.move .none (.tmp rfl (fun _ => trivial))) rfl ?_
  refine Chain.cons (StepOK.lt .none (.tmp rfl (fun _ => trivial)) (.int (by decide))) rfl ?_
  refine Chain.cons (StepOK.move .none (.tmp rfl (fun _ => trivial))) rfl ?_
  refine Chain.cons (StepOK.move (.at rfl rfl) (.tmp rfl (fun _ => trivial))) rfl ?_
  refine Chain.cons (StepOK.gt (.at rfl rfl) (.tmp rfl id) (.int (by decide))) rfl ?_
  refine Chain.cons (StepOK.pickOr .none (.tmp rfl (fun _ => trivial)) (.tmp rfl id)) rfl ?_
  refine Chain.cons (StepOK.assign .none (.tmp rfl (fun _ => trivial))) rfl ?_
  refine Chain.nil ?_
  refine Ends.then ?_
  refine Cod.ret ?_
  obtain rfl := some_eq h
  exact Ends.ret1 (.inl rfl) Tryd.results82 (ResOK.tmp rfl trivial Imp.refl)


end Go.Proofs.YthopjimlhjgoiaaDoor
