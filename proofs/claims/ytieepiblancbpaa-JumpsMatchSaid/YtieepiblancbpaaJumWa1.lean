/-
  The walks: what a function computes is what its plain function says (printed by a program of one's own).
-/
import Derived.Test.YtieepiblancbpaaJumFa
set_option maxRecDepth 100000
set_option linter.unusedSimpArgs false
set_option linter.unusedVariables false
namespace Go.Proofs.Ytieepiblancbpaa
open Go Go.DB Go.RowKit

theorem slices_Compact_int_ok {l : List Int} {r : List Int} {s : Value} (h : slices_Compact_int l = some r) : FSpecO Try.prog 110 [isV s] [(s, rowV 3 l)] (anyV) [none, some (rowV 3 r)] := by
  obtain ⟨hl, h⟩ := need_some h
  obtain rfl := some_eq h
  exact compactI_spec compactI_lay rfl fnok110 hl

theorem slices_Sort_int_ok {l : List Int} {r : List Int} {s : Value} (h : slices_Sort_int l = some r) : FSpecO Try.prog 109 [isV s] [(s, rowV 3 l)] (anyV) [some (rowV 3 r)] := by
  obtain ⟨hl, h⟩ := need_some h
  obtain rfl := some_eq h
  exact sortI_spec sortI_lay rfl fnok109 hl

instance : Enc Geom_rail := Enc.via (fun x : Geom_rail => (x.at_, x.from_, x.to_, x.along, x.back))

theorem sortO_Geom_rail : Sort.SWO (Proofs.ltOf sortC_Geom_rail) := by
  have h : ∀ x y, Proofs.ltOf sortC_Geom_rail x y = decide (x.1.at_ < y.1.at_) := fun ⟨x, hx⟩ ⟨y, hy⟩ => by
    unfold Proofs.ltOf sortC_Geom_rail sortQ_Geom_rail at *
    rw [W_eq ⟨by simp only; omega, by simp only; omega⟩, decide_eq_decide]
    simp only; omega
  constructor
  · intro x; rw [h]; simp
  · intro x y z h1 h2; rw [h] at *; simp at *; omega
  · intro x y z h1 h2; rw [h] at *; simp at *; omega

set_option maxHeartbeats 2000000 in
theorem sortX_Geom_rail (x y : { x : Geom_rail // sortQ_Geom_rail x }) (w0 : World) : Calls Try.prog 116 #[.agg (Enc.enc x.1).toArray, .agg (Enc.enc y.1).toArray] w0 fun e w' => e = .returned (.int .i64 (sortC_Geom_rail x y)) ∧ ∃ q os', w' = Go.Sort.grow (w0.drewN q) os' := by
  obtain ⟨⟨a1, a2, a3, a4, a5⟩, hx⟩ := x
  obtain ⟨⟨b1, b2, b3, b4, b5⟩, hy⟩ := y
  have hc : sortC_Geom_rail ⟨⟨a1, a2, a3, a4, a5⟩, hx⟩ ⟨⟨b1, b2, b3, b4, b5⟩, hy⟩ = IntKind.i64.wrap (a1 - b1) := by unfold sortC_Geom_rail DB.W; rfl
  rw [hc]
  show Calls Try.prog 116 #[.agg #[.int .i64 a1, .int .i64 a2, .int .i64 a3, .int .i64 a4, .bool a5], .agg #[.int .i64 b1, .int .i64 b2, .int .i64 b3, .int .i64 b4, .bool b5]] w0 fun e w' => e = .returned (.int .i64 (IntKind.i64.wrap (a1 - b1))) ∧ ∃ q os', w' = Go.Sort.grow (w0.drewN q) os'
  clear hc hx hy
  go_enter Try.func116, Try.ntmps116
  go_wp2
  go_ret
  exact ⟨by show Ending.returned (.int .i64 (wrap64 (a1 - b1))) = _; congr 2; simp only [wrap64, IntKind.wrap_i64], 0, _, by rw [Go.Sort.alloc_eq_grow, Go.Sort.alloc_eq_grow, Go.Sort.grow_grow]; rfl⟩

theorem slices_SortFunc_rail_ok {l r : List Geom_rail} {s : Value} (h : slices_SortFunc_rail l = some r) : FSpecO Try.prog 115 [isV s, cloV 116 []] [(s, rowV 121 l)] (anyV) [some (rowV 121 r)] := by
  obtain ⟨hl, h⟩ := need_some h
  obtain rfl := some_eq h
  exact sortF_spec sortF121_lay rfl rfl fnok115 fnok116 Try.underlying121 ty121 sortO_Geom_rail sortX_Geom_rail hl.1 hl.2

theorem geom_out_ok {n1 : Int} {r : Bool}  (h : geom_out n1 = some r) : FSpec Try.prog 89 [rep n1] (rep r) := by
  unfold geom_out at h
  refine FSpec.intro (n := 9) fnok89 Try.func89 rfl Try.ntmps89 rfl (fun F => ?_)
  refine .seq ?_
  refine .region [] mixed (by kernel_rfl) ?_
  refine .cons (.assign .none .bool) rfl ?_
  refine .nil ?_
  refine .then ?_
  refine .seq ?_
  refine .region [] mixed (by kernel_rfl) ?_
  refine .cons (.move .none (.s rfl)) rfl ?_
  refine .cons (.lt .none (.s rfl) (.int (by decide))) rfl ?_
  refine .cons (.move .none (.s rfl)) rfl ?_
  refine .cons (.move (.at rfl rfl) (.s rfl)) rfl ?_
  refine .cons (.gt (.at rfl rfl) (.tmp rfl id) (.int (by decide))) rfl ?_
  refine .cons (.pickOr .none (.s rfl) (.tmp rfl id)) rfl ?_
  refine .cons (.assign .none (.s rfl)) rfl ?_
  refine .nil ?_
  refine .then ?_
  refine .ret ?_
  obtain rfl := some_eq h
  exact Ends.ret1 (.inl rfl) Try.results89 (ResOK.tmp rfl trivial Imp.refl)

theorem geom_CheckPoint_ok {p1 : Point} {r : Int}  (h : geom_CheckPoint p1 = some r) : FSpec Try.prog 34 [rep p1] (rep r) := by
  unfold geom_CheckPoint at h
  refine FSpec.intro (n := 11) fnok34 Try.func34 rfl Try.ntmps34 rfl (fun F => ?_)
  refine .seq ?_
  refine .region [] mixed (by kernel_rfl) ?_
  refine .cons (.box .none (.s rfl)) rfl ?_
  refine .cons (.assign .none (.int (by decide))) rfl ?_
  refine .nil ?_
  refine .then ?_
  refine .seq ?_
  refine .seq ?_
  refine .region [] mixed (by kernel_rfl) ?_
  refine .cons (.fieldAddr .none fd23_0 hfd23_0 (.s rfl)) rfl ?_
  refine .cons (.load .none ty3 (.s rfl)) rfl ?_
  obtain ⟨r1, hv1, h⟩ := bind_some h
  refine .cons (.call .none (geom_out_ok hv1) (.cons (.s rfl) .nil)) rfl ?_
  refine .cons (.move .none (.s rfl)) rfl ?_
  refine .cons (.fieldAddr (.at rfl rfl) fd23_1 hfd23_1 (.s rfl)) rfl ?_
  refine .cons (.load (.at rfl rfl) ty3 (.tmp rfl id)) rfl ?_
  obtain ⟨r2, hv2, h⟩ := bind_some h
  refine .cons (.callIf (.at rfl rfl) fnok89 (fun hg => geom_out_ok ((fun hg => gd_some hv2 ((notT hg.2))) hg)) (.cons (.tmp rfl id) .nil) (fun h => h)) rfl ?_
  refine .cons (.pickOr .none (.s rfl) (.tmp rfl id)) rfl ?_
  refine .nil ?_
  refine .then ?_
  refine .cond (t := 10) rfl trivial (fun hb3 => ?_) (fun hb3 => ?_)
  · replace h := bif_t h hb3
    refine .seq ?_
    refine .region [] mixed (by kernel_rfl) ?_
    refine .cons (.assign .none (.int (by decide))) rfl ?_
    refine .nil ?_
    refine .then ?_
    refine .ret ?_
    refine .thenRet ?_
    obtain rfl := some_eq h
    exact Ends.ret1 (.inl rfl) Try.results34 (ResOK.tmp rfl trivial Imp.refl)
  · replace h := bif_f h hb3
    refine .skip ?_
    refine .then ?_
    refine .seq ?_
    refine .region [] mixed (by kernel_rfl) ?_
    refine .cons (.assign .none (.int (by decide))) rfl ?_
    refine .nil ?_
    refine .then ?_
    refine .ret ?_
    obtain rfl := some_eq h
    exact Ends.ret1 (.inl rfl) Try.results34 (ResOK.tmp rfl trivial Imp.refl)

theorem geom_points_ok {l1 : (List Point)} {r : Int}  (h : geom_points l1 = some r) : FSpec Try.prog 79 [rep l1] (rep r) := by
  unfold geom_points at h
  refine FSpec.intro (n := 18) fnok79 Try.func79 rfl Try.ntmps79 rfl (fun F => ?_)
  refine .seq ?_
  refine .region [] mixed (by kernel_rfl) ?_
  refine .cons (.assign .none (.int (by decide))) rfl ?_
  refine .nil ?_
  refine .then ?_
  refine .seq ?_
  refine .seq ?_
  refine .region [] mixed (by kernel_rfl) ?_
  refine .cons (.move .none (.s rfl)) rfl ?_
  refine .cons (.len .none sl66 (.s rfl)) rfl ?_
  refine .cons (.move .none (.int (by decide))) rfl ?_
  refine .nil ?_
  refine .then ?_
  obtain ⟨o_1, h, hK1⟩ := bindR_some h
  refine .thenJ (ι := Unit) (fun j_1 => []) (fun j_1 => []) (fun s => o_1 = Res.nx s) Sub.nil SubB.nil ?_ (fun j_1 hj1 => ?_)
  · skip
    refine .block ?_
    refine .rforEL h (fun p2_ => [(8, ⟨True, rep p2_.1⟩)]) (fun p2_ => []) (.cons (t := 8) rfl Sub.nil) SubB.nil (.cons (t := 6) rfl (.cons (t := 7) rfl Sub.nil)) SubB.nil (fun p2_ o_2 h hD2 => ?_)
    refine .seq ?_
    refine .region [] mixed (by kernel_rfl) ?_
    refine .cons (.lt .none (.s rfl) (.s rfl)) rfl ?_
    refine .nil ?_
    refine .then ?_
    refine .seq ?_
    refine .cond (t := 9) rfl trivial (fun hb3 => ?_) (fun hb3 => ?_)
    · replace h := bif_t h hb3
      refine .skip ?_
      refine .then ?_
      refine .seq ?_
      obtain ⟨o_4, h, hK4⟩ := bindD_some h
      unfold geom_points_L1 at h
      refine .thenJ (ι := Unit) (fun j_4 => []) (fun j_4 => []) (fun s => o_4 = Res.nx s) (.cons (t := 6) rfl (.cons (t := 7) rfl (.cons (t := 8) rfl Sub.nil))) SubB.nil ?_ (fun j_4 hj4 => ?_)
      · skip
        refine .block ?_
        refine .seq ?_
        refine .region [([], []), ([], []), ([], [4]), ([4], [4])] mixed (by kernel_rfl) ?_
        obtain ⟨hn5, h⟩ := need_some h
        refine .consA (.indexAddr .none sl66 ty23 (.s rfl) (.s rfl) (fun _ => hn5)) rfl ?_
        obtain ⟨v1, hv6, h⟩ := bnd_some h
        refine .consA (.re hv6 (.load .none ty23 (.s rfl))) rfl ?_
        refine .consW (.alloc zo23 rfl) rfl rfl ?_
        refine .consN (.store ty23 rfl rfl (.s rfl)) rfl ?_
        refine .nil ?_
        refine .then ?_
        refine .freeze (t := 4) rfl rfl SubB.nil rfl ?_
        refine .seq ?_
        refine .region [] mixed (by kernel_rfl) ?_
        refine .cons (.load .none ty23 (.s rfl)) rfl ?_
        obtain ⟨e1, hv7, h⟩ := bind_some h
        refine .cons (.call .none (geom_CheckPoint_ok hv7) (.cons (.s rfl) .nil)) rfl ?_
        refine .cons (.assign .none (.s rfl)) rfl ?_
        refine .nil ?_
        refine .then ?_
        refine .seq ?_
        refine .region [] mixed (by kernel_rfl) ?_
        refine .cons (.move .none (.s rfl)) rfl ?_
        refine .cons (.neI .none (.s rfl) (.int (by decide))) rfl ?_
        refine .nil ?_
        refine .then ?_
        refine .cond (t := 15) rfl trivial (fun hb8 => ?_) (fun hb8 => ?_)
        · replace h := bif_t h hb8
          refine .seq ?_
          refine .region [] mixed (by kernel_rfl) ?_
          refine .cons (.move .none (.s rfl)) rfl ?_
          refine .cons (.assign .none (.s rfl)) rfl ?_
          refine .nil ?_
          refine .then ?_
          refine .ret ?_
          refine .blkRet ?_
          refine .thenRet ?_
          refine .thenRet ?_
          refine .blkRet ?_
          refine .thenRet ?_
          replace h := resd_ab hK4 (some_eq h)
          replace h := hD2 _ (some_eq h)
          replace h := resb_ab hK1 (some_eq h)
          obtain rfl := some_eq h
          exact Ends.ret1 (.inl rfl) Try.results79 (ResOK.tmp rfl trivial Imp.refl)
        · replace h := bif_f h hb8
          refine .skip ?_
          refine .blkNormal ?_
          exact Ends.join _ (some_eq h) (.cons (t := 6) rfl (.cons (t := 7) rfl (.cons (t := 8) rfl Sub.nil))) SubB.nil
      · have h := resd_nx hK4 hj4
        refine .region [] mixed (by kernel_rfl) ?_
        refine .cons (.addW .none (.s rfl) (.int (by decide))) rfl ?_
        refine .cons (.move .none (.s rfl)) rfl ?_
        refine .nil ?_
        exact Ends.againL (some_eq h) (.cons (t := 8) rfl (.cons (t := 6) rfl (.cons (t := 7) rfl Sub.nil))) SubB.nil
    · replace h := bif_f h hb3
      refine .exit ?_
      refine .thenExit ?_
      refine .thenExit ?_
      refine .blkExit ?_
      replace h := hD2 _ (some_eq h)
      exact Ends.join _ (some_eq h) Sub.nil SubB.nil
  · have h := resb_nx hK1 hj1
    refine .seq ?_
    refine .region [] mixed (by kernel_rfl) ?_
    refine .cons (.assign .none (.int (by decide))) rfl ?_
    refine .nil ?_
    refine .then ?_
    refine .ret ?_
    obtain rfl := some_eq h
    exact Ends.ret1 (.inl rfl) Try.results79 (ResOK.tmp rfl trivial Imp.refl)

theorem geom_CheckPoints_ok {l1 : (List Point)} {r : Int}  (h : geom_CheckPoints l1 = some r) : FSpec Try.prog 47 [rep l1] (rep r) := by
  unfold geom_CheckPoints at h
  refine FSpec.intro (n := 8) fnok47 Try.func47 rfl Try.ntmps47 rfl (fun F => ?_)
  refine .seq ?_
  refine .region [] mixed (by kernel_rfl) ?_
  refine .cons (.assign .none (.int (by decide))) rfl ?_
  refine .nil ?_
  refine .then ?_
  refine .seq ?_
  refine .seq ?_
  refine .region [] mixed (by kernel_rfl) ?_
  refine .cons (.move .none (.s rfl)) rfl ?_
  refine .cons (.len .none sl66 (.s rfl)) rfl ?_
  refine .cons (.gt .none (.s rfl) (.int (by decide))) rfl ?_
  refine .nil ?_
  refine .then ?_
  refine .cond (t := 5) rfl trivial (fun hb1 => ?_) (fun hb1 => ?_)
  · replace h := bif_t h hb1
    refine .seq ?_
    refine .region [] mixed (by kernel_rfl) ?_
    refine .cons (.assign .none (.int (by decide))) rfl ?_
    refine .nil ?_
    refine .then ?_
    refine .ret ?_
    refine .thenRet ?_
    obtain rfl := some_eq h
    exact Ends.ret1 (.inl rfl) Try.results47 (ResOK.tmp rfl trivial Imp.refl)
  · replace h := bif_f h hb1
    refine .skip ?_
    refine .then ?_
    refine .seq ?_
    refine .region [] mixed (by kernel_rfl) ?_
    refine .cons (.move .none (.s rfl)) rfl ?_
    obtain ⟨r1, hv2, h⟩ := bind_some h
    refine .cons (.call .none (geom_points_ok hv2) (.cons (.s rfl) .nil)) rfl ?_
    refine .cons (.assign .none (.s rfl)) rfl ?_
    refine .nil ?_
    refine .then ?_
    refine .ret ?_
    obtain rfl := some_eq h
    exact Ends.ret1 (.inl rfl) Try.results47 (ResOK.tmp rfl trivial Imp.refl)

theorem geom_CheckPath_ok {l1 : (List Point)} {r : Int}  (h : geom_CheckPath l1 = some r) : FSpec Try.prog 49 [rep l1] (rep r) := by
  unfold geom_CheckPath at h
  refine FSpec.intro (n := 44) fnok49 Try.func49 rfl Try.ntmps49 rfl (fun F => ?_)
  refine .seq ?_
  refine .region [] mixed (by kernel_rfl) ?_
  refine .cons (.assign .none (.int (by decide))) rfl ?_
  refine .nil ?_
  refine .then ?_
  refine .seq ?_
  refine .seq ?_
  refine .region [] mixed (by kernel_rfl) ?_
  refine .cons (.move .none (.s rfl)) rfl ?_
  obtain ⟨e1, hv1, h⟩ := bind_some h
  refine .cons (.call .none (geom_CheckPoints_ok hv1) (.cons (.s rfl) .nil)) rfl ?_
  refine .cons (.assign .none (.s rfl)) rfl ?_
  refine .nil ?_
  refine .then ?_
  refine .seq ?_
  refine .region [] mixed (by kernel_rfl) ?_
  refine .cons (.move .none (.s rfl)) rfl ?_
  refine .cons (.neI .none (.s rfl) (.int (by decide))) rfl ?_
  refine .nil ?_
  refine .then ?_
  refine .cond (t := 8) rfl trivial (fun hb2 => ?_) (fun hb2 => ?_)
  · replace h := bif_t h hb2
    refine .seq ?_
    refine .region [] mixed (by kernel_rfl) ?_
    refine .cons (.move .none (.s rfl)) rfl ?_
    refine .cons (.assign .none (.s rfl)) rfl ?_
    refine .nil ?_
    refine .then ?_
    refine .ret ?_
    refine .thenRet ?_
    obtain rfl := some_eq h
    exact Ends.ret1 (.inl rfl) Try.results49 (ResOK.tmp rfl trivial Imp.refl)
  · replace h := bif_f h hb2
    refine .skip ?_
    refine .then ?_
    refine .seq ?_
    refine .seq ?_
    refine .region [] mixed (by kernel_rfl) ?_
    refine .cons (.move .none (.s rfl)) rfl ?_
    refine .cons (.len .none sl66 (.s rfl)) rfl ?_
    refine .cons (.lt .none (.s rfl) (.int (by decide))) rfl ?_
    refine .nil ?_
    refine .then ?_
    refine .cond (t := 12) rfl trivial (fun hb3 => ?_) (fun hb3 => ?_)
    · replace h := bif_t h hb3
      refine .seq ?_
      refine .region [] mixed (by kernel_rfl) ?_
      refine .cons (.assign .none (.int (by decide))) rfl ?_
      refine .nil ?_
      refine .then ?_
      refine .ret ?_
      refine .thenRet ?_
      obtain rfl := some_eq h
      exact Ends.ret1 (.inl rfl) Try.results49 (ResOK.tmp rfl trivial Imp.refl)
    · replace h := bif_f h hb3
      refine .skip ?_
      refine .then ?_
      refine .seq ?_
      refine .seq ?_
      refine .region [] mixed (by kernel_rfl) ?_
      refine .cons (.assign .none (.int (by decide))) rfl ?_
      refine .nil ?_
      refine .then ?_
      obtain ⟨o_4, h, hK4⟩ := bindR_some h
      refine .thenJ (ι := Unit) (fun j_4 => []) (fun j_4 => []) (fun s => o_4 = Res.nx s) Sub.nil SubB.nil ?_ (fun j_4 hj4 => ?_)
      · skip
        refine .block ?_
        refine .loopL h (fun s5_ => [(4, ⟨True, rep s5_⟩)]) (fun s5_ => []) (.cons (t := 4) rfl Sub.nil) SubB.nil (.cons (t := 0) rfl Sub.nil) SubB.nil (fun s5_ o_5 h hD5 => ?_)
        unfold geom_CheckPath_L1 at h
        refine .seq ?_
        refine .seq ?_
        refine .region [] mixed (by kernel_rfl) ?_
        refine .cons (.move .none (.s rfl)) rfl ?_
        refine .cons (.move .none (.s rfl)) rfl ?_
        refine .cons (.len .none sl66 (.s rfl)) rfl ?_
        refine .cons (.lt .none (.s rfl) (.s rfl)) rfl ?_
        refine .nil ?_
        refine .then ?_
        refine .cond (t := 16) rfl trivial (fun hb6 => ?_) (fun hb6 => ?_)
        · replace h := bif_t h hb6
          refine .skip ?_
          refine .then ?_
          refine .seq ?_
          refine .block ?_
          refine .seq ?_
          refine .region [] mixed (by kernel_rfl) ?_
          refine .cons (.move .none (.s rfl)) rfl ?_
          refine .cons (.move .none (.s rfl)) rfl ?_
          obtain ⟨hn7, h⟩ := need_some h
          refine .cons (.indexAddr .none sl66 ty23 (.s rfl) (.s rfl) (fun _ => hn7)) rfl ?_
          refine .cons (.fieldAddr .none fd23_0 hfd23_0 (.s rfl)) rfl ?_
          refine .cons (.load .none ty3 (.s rfl)) rfl ?_
          refine .cons (.move .none (.s rfl)) rfl ?_
          refine .cons (.move .none (.s rfl)) rfl ?_
          refine .cons (.subW .none (.s rfl) (.int (by decide))) rfl ?_
          obtain ⟨hn8, h⟩ := need_some h
          refine .cons (.indexAddr .none sl66 ty23 (.s rfl) (.s rfl) (fun _ => hn8)) rfl ?_
          refine .cons (.fieldAddr .none fd23_0 hfd23_0 (.s rfl)) rfl ?_
          refine .cons (.load .none ty3 (.s rfl)) rfl ?_
          refine .cons (.eqI .none (.s rfl) (.s rfl)) rfl ?_
          refine .cons (.move .none (.s rfl)) rfl ?_
          refine .cons (.move .none (.s rfl)) rfl ?_
          obtain ⟨hn9, h⟩ := need_some h
          refine .cons (.indexAddr .none sl66 ty23 (.s rfl) (.s rfl) (fun _ => hn9)) rfl ?_
          refine .cons (.fieldAddr .none fd23_1 hfd23_1 (.s rfl)) rfl ?_
          refine .cons (.load .none ty3 (.s rfl)) rfl ?_
          refine .cons (.move .none (.s rfl)) rfl ?_
          refine .cons (.move .none (.s rfl)) rfl ?_
          refine .cons (.subW .none (.s rfl) (.int (by decide))) rfl ?_
          obtain ⟨hn10, h⟩ := need_some h
          refine .cons (.indexAddr .none sl66 ty23 (.s rfl) (.s rfl) (fun _ => hn10)) rfl ?_
          refine .cons (.fieldAddr .none fd23_1 hfd23_1 (.s rfl)) rfl ?_
          refine .cons (.load .none ty3 (.s rfl)) rfl ?_
          refine .cons (.eqI .none (.s rfl) (.s rfl)) rfl ?_
          refine .cons (.eqS .none (eqAt_bool Try.underlying4) (.s rfl) (.s rfl)) rfl ?_
          refine .nil ?_
          refine .then ?_
          refine .cond (t := 43) rfl trivial (fun hb11 => ?_) (fun hb11 => ?_)
          · replace h := bif_t h hb11
            refine .seq ?_
            refine .region [] mixed (by kernel_rfl) ?_
            refine .cons (.assign .none (.int (by decide))) rfl ?_
            refine .nil ?_
            refine .then ?_
            refine .ret ?_
            refine .blkRet ?_
            refine .thenRet ?_
            refine .thenRet ?_
            refine .blkRet ?_
            refine .thenRet ?_
            replace h := hD5 _ (some_eq h)
            replace h := resb_ab hK4 (some_eq h)
            obtain rfl := some_eq h
            exact Ends.ret1 (.inl rfl) Try.results49 (ResOK.tmp rfl trivial Imp.refl)
          · replace h := bif_f h hb11
            refine .skip ?_
            refine .blkNormal ?_
            refine .then ?_
            refine .region [] mixed (by kernel_rfl) ?_
            refine .cons (.move .none (.s rfl)) rfl ?_
            refine .cons (.addW .none (.s rfl) (.int (by decide))) rfl ?_
            obtain ⟨i1, hv12, h⟩ := bnd_some h
            refine .cons (.re hv12 (.assign .none (.s rfl))) rfl ?_
            refine .nil ?_
            exact Ends.againL (some_eq h) (.cons (t := 4) rfl (.cons (t := 0) rfl Sub.nil)) SubB.nil
        · replace h := bif_f h hb6
          refine .exit ?_
          refine .thenExit ?_
          refine .thenExit ?_
          refine .blkExit ?_
          replace h := hD5 _ (some_eq h)
          exact Ends.join _ (some_eq h) Sub.nil SubB.nil
      · have h := resb_nx hK4 hj4
        refine .seq ?_
        refine .region [] mixed (by kernel_rfl) ?_
        refine .cons (.assign .none (.int (by decide))) rfl ?_
        refine .nil ?_
        refine .then ?_
        refine .ret ?_
        obtain rfl := some_eq h
        exact Ends.ret1 (.inl rfl) Try.results49 (ResOK.tmp rfl trivial Imp.refl)

theorem geom_apart_ok {a1 : Point} {b1 : Point} {r : Int}  (h : geom_apart a1 b1 = some r) : FSpec Try.prog 95 [rep a1, rep b1] (rep r) := by
  unfold geom_apart at h
  refine FSpec.intro (n := 26) fnok95 Try.func95 rfl Try.ntmps95 rfl (fun F => ?_)
  refine .seq ?_
  refine .region [] mixed (by kernel_rfl) ?_
  refine .cons (.box .none (.s rfl)) rfl ?_
  refine .cons (.box .none (.s rfl)) rfl ?_
  refine .cons (.assign .none (.int (by decide))) rfl ?_
  refine .nil ?_
  refine .then ?_
  refine .seq ?_
  refine .region [] mixed (by kernel_rfl) ?_
  refine .cons (.fieldAddr .none fd23_0 hfd23_0 (.s rfl)) rfl ?_
  refine .cons (.load .none ty3 (.s rfl)) rfl ?_
  refine .cons (.fieldAddr .none fd23_0 hfd23_0 (.s rfl)) rfl ?_
  refine .cons (.load .none ty3 (.s rfl)) rfl ?_
  refine .cons (.subW .none (.s rfl) (.s rfl)) rfl ?_
  refine .cons (.fieldAddr .none fd23_1 hfd23_1 (.s rfl)) rfl ?_
  refine .cons (.load .none ty3 (.s rfl)) rfl ?_
  refine .cons (.fieldAddr .none fd23_1 hfd23_1 (.s rfl)) rfl ?_
  refine .cons (.load .none ty3 (.s rfl)) rfl ?_
  refine .cons (.subW .none (.s rfl) (.s rfl)) rfl ?_
  obtain ⟨x1, hv1, h⟩ := bnd_some h
  refine .cons (.re hv1 (.assign .none (.s rfl))) rfl ?_
  obtain ⟨y1, hv2, h⟩ := bnd_some h
  refine .cons (.re hv2 (.assign .none (.s rfl))) rfl ?_
  refine .nil ?_
  refine .then ?_
  refine .seq ?_
  refine .region [] mixed (by kernel_rfl) ?_
  refine .cons (.move .none (.s rfl)) rfl ?_
  refine .cons (.move .none (.s rfl)) rfl ?_
  refine .cons (.negW .none (.s rfl)) rfl ?_
  refine .cons (.max2 .none (.s rfl) (.s rfl)) rfl ?_
  refine .cons (.move .none (.s rfl)) rfl ?_
  refine .cons (.move .none (.s rfl)) rfl ?_
  refine .cons (.negW .none (.s rfl)) rfl ?_
  refine .cons (.max2 .none (.s rfl) (.s rfl)) rfl ?_
  refine .cons (.addW .none (.s rfl) (.s rfl)) rfl ?_
  refine .cons (.assign .none (.s rfl)) rfl ?_
  refine .nil ?_
  refine .then ?_
  refine .ret ?_
  obtain rfl := some_eq h
  exact Ends.ret1 (.inl rfl) Try.results95 (ResOK.tmp rfl trivial Imp.refl)

theorem geom_rails_ok {l1 : (List Point)} {r : ((List Geom_rail) × (List Geom_rail))}  (h : geom_rails l1 = some r) : FSpec Try.prog 107 [rep l1] (tup [rep r.1, rep r.2]) := by
  unfold geom_rails at h
  refine FSpec.intro (n := 92) fnok107 Try.func107 rfl Try.ntmps107 rfl (fun F => ?_)
  refine .seq ?_
  refine .region [([], [2]), ([], [3])] mixed (by kernel_rfl) ?_
  refine .consW (.nilRow (T := 121) (α := Geom_rail) rfl) rfl rfl ?_
  refine .consW (.nilRow (T := 121) (α := Geom_rail) rfl) rfl rfl ?_
  refine .nil ?_
  refine .then ?_
  refine .nameRow (t := 2) (g := 5001) rfl rfl rfl (fun s5001 => ?_)
  refine .nameRow (t := 3) (g := 5002) rfl rfl rfl (fun s5002 => ?_)
  refine .seq ?_
  refine .region [] mixed (by kernel_rfl) ?_
  refine .cons (.assign .none (.int (by decide))) rfl ?_
  refine .nil ?_
  refine .then ?_
  refine .seq ?_
  refine .seq ?_
  refine .region [] mixed (by kernel_rfl) ?_
  refine .cons (.assign .none (.int (by decide))) rfl ?_
  refine .nil ?_
  refine .then ?_
  obtain ⟨j_1, h, hK1⟩ := bind_some h
  refine .thenJ (ι := ((List Geom_rail) × (List Geom_rail))) (fun j_1 => []) (fun j_1 => [(2, some (rowV 121 j_1.1)), (3, some (rowV 121 j_1.2))]) (fun s => j_1 = s) Sub.nil SubB.nil ?_ (fun j_1' hj1 => ?_)
  · skip
    refine .block ?_
    refine .anon (t := 2) (g := 5001) rfl rfl trivial rfl ?_
    refine .anon (t := 3) (g := 5002) rfl rfl trivial rfl ?_
    refine .loopL h (fun s2_ => [(4, ⟨True, rep s2_.2.2.1⟩), (5, ⟨True, rep s2_.2.2.2⟩)]) (fun s2_ => [(2, some (rowV 121 s2_.1)), (3, some (rowV 121 s2_.2.1))]) (.cons (t := 4) rfl (.cons (t := 5) rfl Sub.nil)) (.cons (t := 2) rfl (.cons (t := 3) rfl SubB.nil)) (.cons (t := 0) rfl Sub.nil) SubB.nil (fun s2_ o_2 h hD2 => ?_)
    unfold geom_rails_L1 at h
    refine .nameRow (t := 2) (g := 5003) rfl rfl rfl (fun s5003 => ?_)
    refine .nameRow (t := 3) (g := 5004) rfl rfl rfl (fun s5004 => ?_)
    refine .seq ?_
    refine .seq ?_
    refine .region [] mixed (by kernel_rfl) ?_
    refine .cons (.move .none (.s rfl)) rfl ?_
    refine .cons (.move .none (.s rfl)) rfl ?_
    refine .cons (.len .none sl66 (.s rfl)) rfl ?_
    refine .cons (.lt .none (.s rfl) (.s rfl)) rfl ?_
    refine .nil ?_
    refine .then ?_
    refine .cond (t := 13) rfl trivial (fun hb3 => ?_) (fun hb3 => ?_)
    · replace h := bif_t h hb3
      refine .skip ?_
      refine .then ?_
      refine .seq ?_
      refine .block ?_
      refine .seq ?_
      refine .region [([], []), ([], []), ([], []), ([], []), ([], []), ([], []), ([], []), ([], []), ([], []), ([], [6]), ([], [7]), ([6], [6]), ([7], [7])] mixed (by kernel_rfl) ?_
      refine .consA (.move .none (.s rfl)) rfl ?_
      refine .consA (.move .none (.s rfl)) rfl ?_
      refine .consA (.subW .none (.s rfl) (.int (by decide))) rfl ?_
      obtain ⟨hn4, h⟩ := need_some h
      refine .consA (.indexAddr .none sl66 ty23 (.s rfl) (.s rfl) (fun _ => hn4)) rfl ?_
      obtain ⟨v1, hv5, h⟩ := bnd_some h
      refine .consA (.re hv5 (.load .none ty23 (.s rfl))) rfl ?_
      refine .consA (.move .none (.s rfl)) rfl ?_
      refine .consA (.move .none (.s rfl)) rfl ?_
      obtain ⟨hn6, h⟩ := need_some h
      refine .consA (.indexAddr .none sl66 ty23 (.s rfl) (.s rfl) (fun _ => hn6)) rfl ?_
      obtain ⟨v2, hv7, h⟩ := bnd_some h
      refine .consA (.re hv7 (.load .none ty23 (.s rfl))) rfl ?_
      refine .consW (.alloc zo23 rfl) rfl rfl ?_
      refine .consW (.alloc zo23 rfl) rfl rfl ?_
      refine .consN (.store ty23 rfl rfl (.s rfl)) rfl ?_
      refine .consN (.store ty23 rfl rfl (.s rfl)) rfl ?_
      refine .nil ?_
      refine .then ?_
      refine .freeze (t := 6) rfl rfl (.cons (t := 7) rfl (.cons (t := 5003) rfl (.cons (t := 5004) rfl SubB.nil))) rfl ?_
      refine .freeze (t := 7) rfl rfl (.cons (t := 5003) rfl (.cons (t := 5004) rfl SubB.nil)) rfl ?_
      refine .seq ?_
      refine .seq ?_
      refine .region [] mixed (by kernel_rfl) ?_
      refine .cons (.fieldAddr .none fd23_1 hfd23_1 (.s rfl)) rfl ?_
      refine .cons (.load .none ty3 (.s rfl)) rfl ?_
      refine .cons (.fieldAddr .none fd23_1 hfd23_1 (.s rfl)) rfl ?_
      refine .cons (.load .none ty3 (.s rfl)) rfl ?_
      refine .cons (.eqI .none (.s rfl) (.s rfl)) rfl ?_
      refine .nil ?_
      refine .then ?_
      obtain ⟨j_8, h, hK8⟩ := bind_some h
      refine .thenJ (ι := ((List Geom_rail) × (List Geom_rail))) (fun j_8 => []) (fun j_8 => [(2, some (rowV 121 j_8.1)), (3, some (rowV 121 j_8.2))]) (fun s => j_8 = s) (.cons (t := 0) rfl (.cons (t := 4) rfl (.cons (t := 5) rfl (.cons (t := 6) rfl (.cons (t := 7) rfl Sub.nil))))) SubB.nil ?_ (fun j_8' hj8 => ?_)
      · skip
        refine .cond (t := 29) rfl trivial (fun hb9 => ?_) (fun hb9 => ?_)
        · replace h := bif_t h hb9
          refine .region [([], []), ([], []), ([], []), ([], []), ([], []), ([], []), ([], []), ([], []), ([], []), ([], []), ([], []), ([], []), ([], []), ([], []), ([], []), ([], []), ([], []), ([], []), ([], []), ([], []), ([], []), ([5003], [51, 5003]), ([51], [2, 51])] mixed (by kernel_rfl) ?_
          refine .consA (.move .none (.s rfl)) rfl ?_
          refine .consA (.fieldAddr .none fd23_1 hfd23_1 (.s rfl)) rfl ?_
          refine .consA (.load .none ty3 (.s rfl)) rfl ?_
          refine .consA (.fieldAddr .none fd23_0 hfd23_0 (.s rfl)) rfl ?_
          refine .consA (.load .none ty3 (.s rfl)) rfl ?_
          refine .consA (.fieldAddr .none fd23_0 hfd23_0 (.s rfl)) rfl ?_
          refine .consA (.load .none ty3 (.s rfl)) rfl ?_
          refine .consA (.min2 .none (.s rfl) (.s rfl)) rfl ?_
          refine .consA (.fieldAddr .none fd23_0 hfd23_0 (.s rfl)) rfl ?_
          refine .consA (.load .none ty3 (.s rfl)) rfl ?_
          refine .consA (.fieldAddr .none fd23_0 hfd23_0 (.s rfl)) rfl ?_
          refine .consA (.load .none ty3 (.s rfl)) rfl ?_
          refine .consA (.max2 .none (.s rfl) (.s rfl)) rfl ?_
          refine .consA (.move .none (.s rfl)) rfl ?_
          refine .consA (.fieldAddr .none fd23_0 hfd23_0 (.s rfl)) rfl ?_
          refine .consA (.load .none ty3 (.s rfl)) rfl ?_
          refine .consA (.fieldAddr .none fd23_0 hfd23_0 (.s rfl)) rfl ?_
          refine .consA (.load .none ty3 (.s rfl)) rfl ?_
          refine .consA (.gt .none (.s rfl) (.s rfl)) rfl ?_
          refine .consA (.buildF (y := (⟨v1.Y, min v1.X v2.X, max v1.X v2.X, s2_.2.2.1, decide (v2.X < v1.X)⟩ : Geom_rail)) .none bu121 zc121 rfl (.cons (.s rfl) (.cons (.s rfl) (.cons (.s rfl) (.cons (.s rfl) (.cons (.s rfl) .nil))))) (.cons rfl sf121_0 (.cons rfl sf121_1 (.cons rfl sf121_2 (.cons rfl sf121_3 (.cons rfl sf121_4 .nil)))))) rfl ?_
          refine .consA (.buildSlice (xs := [_]) .none sl109 ty121 hz121 (.cons (.s rfl) .nil) rfl (by decide)) rfl ?_
          obtain ⟨hn10, h⟩ := need_some h
          refine .consW (.append (k := 5003) rk109 rfl (.told (.s rfl) rfl) (.s rfl) hn10) rfl rfl ?_
          refine .consW (.passRow rfl (.tmp rfl)) rfl rfl ?_
          refine .nil ?_
          refine .anon (t := 3) (g := 5004) rfl rfl trivial rfl ?_
          exact Ends.join _ (some_eq h) (.cons (t := 0) rfl (.cons (t := 4) rfl (.cons (t := 5) rfl (.cons (t := 6) rfl (.cons (t := 7) rfl Sub.nil))))) (.cons (t := 2) rfl (.cons (t := 3) rfl SubB.nil))
        · replace h := bif_f h hb9
          refine .region [([], []), ([], []), ([], []), ([], []), ([], []), ([], []), ([], []), ([], []), ([], []), ([], []), ([], []), ([], []), ([], []), ([], []), ([], []), ([], []), ([], []), ([], []), ([], []), ([], []), ([], []), ([5004], [73, 5004]), ([73], [3, 73])] mixed (by kernel_rfl) ?_
          refine .consA (.move .none (.s rfl)) rfl ?_
          refine .consA (.fieldAddr .none fd23_0 hfd23_0 (.s rfl)) rfl ?_
          refine .consA (.load .none ty3 (.s rfl)) rfl ?_
          refine .consA (.fieldAddr .none fd23_1 hfd23_1 (.s rfl)) rfl ?_
          refine .consA (.load .none ty3 (.s rfl)) rfl ?_
          refine .consA (.fieldAddr .none fd23_1 hfd23_1 (.s rfl)) rfl ?_
          refine .consA (.load .none ty3 (.s rfl)) rfl ?_
          refine .consA (.min2 .none (.s rfl) (.s rfl)) rfl ?_
          refine .consA (.fieldAddr .none fd23_1 hfd23_1 (.s rfl)) rfl ?_
          refine .consA (.load .none ty3 (.s rfl)) rfl ?_
          refine .consA (.fieldAddr .none fd23_1 hfd23_1 (.s rfl)) rfl ?_
          refine .consA (.load .none ty3 (.s rfl)) rfl ?_
          refine .consA (.max2 .none (.s rfl) (.s rfl)) rfl ?_
          refine .consA (.move .none (.s rfl)) rfl ?_
          refine .consA (.fieldAddr .none fd23_1 hfd23_1 (.s rfl)) rfl ?_
          refine .consA (.load .none ty3 (.s rfl)) rfl ?_
          refine .consA (.fieldAddr .none fd23_1 hfd23_1 (.s rfl)) rfl ?_
          refine .consA (.load .none ty3 (.s rfl)) rfl ?_
          refine .consA (.gt .none (.s rfl) (.s rfl)) rfl ?_
          refine .consA (.buildF (y := (⟨v1.X, min v1.Y v2.Y, max v1.Y v2.Y, s2_.2.2.1, decide (v2.Y < v1.Y)⟩ : Geom_rail)) .none bu121 zc121 rfl (.cons (.s rfl) (.cons (.s rfl) (.cons (.s rfl) (.cons (.s rfl) (.cons (.s rfl) .nil))))) (.cons rfl sf121_0 (.cons rfl sf121_1 (.cons rfl sf121_2 (.cons rfl sf121_3 (.cons rfl sf121_4 .nil)))))) rfl ?_
          refine .consA (.buildSlice (xs := [_]) .none sl109 ty121 hz121 (.cons (.s rfl) .nil) rfl (by decide)) rfl ?_
          obtain ⟨hn11, h⟩ := need_some h
          refine .consW (.append (k := 5004) rk109 rfl (.told (.s rfl) rfl) (.s rfl) hn11) rfl rfl ?_
          refine .consW (.passRow rfl (.tmp rfl)) rfl rfl ?_
          refine .nil ?_
          refine .anon (t := 2) (g := 5003) rfl rfl trivial rfl ?_
          exact Ends.join _ (some_eq h) (.cons (t := 0) rfl (.cons (t := 4) rfl (.cons (t := 5) rfl (.cons (t := 6) rfl (.cons (t := 7) rfl Sub.nil))))) (.cons (t := 2) rfl (.cons (t := 3) rfl SubB.nil))
      · subst hj8; have h := hK8; clear hK8
        refine .nameRow (t := 2) (g := 5005) rfl rfl rfl (fun s5005 => ?_)
        refine .nameRow (t := 3) (g := 5006) rfl rfl rfl (fun s5006 => ?_)
        refine .region [] mixed (by kernel_rfl) ?_
        refine .cons (.move .none (.s rfl)) rfl ?_
        refine .cons (.load .none ty23 (.s rfl)) rfl ?_
        refine .cons (.load .none ty23 (.s rfl)) rfl ?_
        obtain ⟨r1, hv12, h⟩ := bind_some h
        refine .cons (.call .none (geom_apart_ok hv12) (.cons (.s rfl) (.cons (.s rfl) .nil))) rfl ?_
        refine .cons (.addW .none (.s rfl) (.s rfl)) rfl ?_
        obtain ⟨along1, hv13, h⟩ := bnd_some h
        refine .cons (.re hv13 (.assign .none (.s rfl))) rfl ?_
        refine .nil ?_
        refine .blkNormal ?_
        refine .then ?_
        refine .region [] mixed (by kernel_rfl) ?_
        refine .cons (.move .none (.s rfl)) rfl ?_
        refine .cons (.addW .none (.s rfl) (.int (by decide))) rfl ?_
        obtain ⟨i1, hv14, h⟩ := bnd_some h
        refine .cons (.re hv14 (.assign .none (.s rfl))) rfl ?_
        refine .nil ?_
        refine .anon (t := 2) (g := 5005) rfl rfl trivial rfl ?_
        refine .anon (t := 3) (g := 5006) rfl rfl trivial rfl ?_
        exact Ends.againL (some_eq h) (.cons (t := 4) rfl (.cons (t := 5) rfl (.cons (t := 0) rfl Sub.nil))) (.cons (t := 2) rfl (.cons (t := 3) rfl SubB.nil))
    · replace h := bif_f h hb3
      refine .exit ?_
      refine .thenExit ?_
      refine .thenExit ?_
      refine .blkExit ?_
      refine .anon (t := 2) (g := 5003) rfl rfl trivial rfl ?_
      refine .anon (t := 3) (g := 5004) rfl rfl trivial rfl ?_
      replace h := hD2 _ (some_eq h)
      exact Ends.join _ (some_eq h) Sub.nil (.cons (t := 2) rfl (.cons (t := 3) rfl SubB.nil))
  · subst hj1; have h := hK1; clear hK1
    refine .nameRow (t := 2) (g := 5007) rfl rfl rfl (fun s5007 => ?_)
    refine .nameRow (t := 3) (g := 5008) rfl rfl rfl (fun s5008 => ?_)
    refine .seq ?_
    refine .seq ?_
    refine .region [] mixed (by kernel_rfl) ?_
    refine .cons (.move .none (.s rfl)) rfl ?_
    refine .cons (.move .none (.s rfl)) rfl ?_
    refine .cons (.buildSlice (xs := [(⟨s5007⟩ : Raw), (⟨s5008⟩ : Raw)]) .none sl108 tr109 hz109 (.cons (.s rfl) (.cons (.s rfl) .nil)) rfl (by decide)) rfl ?_
    refine .cons (.re (v := (2 : Int)) (e := ([(⟨s5007⟩ : Raw), (⟨s5008⟩ : Raw)].length : Int)) rfl (.len .none sl108 (.s rfl))) rfl ?_
    refine .cons (.move .none (.int (by decide))) rfl ?_
    refine .nil ?_
    refine .then ?_
    obtain ⟨j_15, h, hK15⟩ := bind_some h
    refine .thenJ (ι := ((List Geom_rail) × (List Geom_rail))) (fun j_15 => []) (fun j_15 => [(5007, some (CPred.at s5007 (rowV 121 j_15.1))), (5008, some (CPred.at s5008 (rowV 121 j_15.2)))]) (fun s => j_15 = s) (.cons (t := 2) rfl (.cons (t := 3) rfl Sub.nil)) SubB.nil ?_ (fun j_15' hj15 => ?_)
    · skip
      refine .block ?_
      refine .loopU ?_
      refine .seq ?_
      refine .region [] mixed (by kernel_rfl) ?_
      refine .cons (.lt .none (.s rfl) (.s rfl)) rfl ?_
      refine .nil ?_
      refine .then ?_
      refine .seq ?_
      refine .condT (t := 84) rfl trivial rfl ?_
      refine .skip ?_
      refine .then ?_
      refine .seq ?_
      refine .block ?_
      refine .seq ?_
      refine .region [] mixed (by kernel_rfl) ?_
      refine .cons (.indexAddr .none sl108 tr109 (.s rfl) (.s rfl) (fun _ => ⟨by omega, by simp⟩)) rfl ?_
      refine .cons (.re (v := (⟨s5007⟩ : Raw)) (e := gx [(⟨s5007⟩ : Raw), (⟨s5008⟩ : Raw)] 0) rfl (.load .none tr109 (.s rfl))) rfl ?_
      refine .cons (.assign .none (.s rfl)) rfl ?_
      refine .nil ?_
      refine .then ?_
      refine .region [([], []), ([5007], [5007])] mixed (by kernel_rfl) ?_
      refine .consA (.move .none (.s rfl)) rfl ?_
      obtain ⟨r2, hv17, h⟩ := bind_some h
      refine .consW (.callO [5007] (slices_SortFunc_rail_ok hv17) (.cons (.s rfl) (.cons .funcC .nil)) (.cons (k := 5007) rfl .nil) rfl (by decide) (by decide) (by intro d h; cases h; decide)) rfl rfl ?_
      refine .nil ?_
      refine .blkNormal ?_
      refine .then ?_
      refine .region [] mixed (by kernel_rfl) ?_
      refine .cons (.re (v := (1 : Int)) (e := W ((0 : Int) + (1 : Int))) (W_eq ⟨by omega, by omega⟩).symm (.addW .none (.s rfl) (.int (by decide)))) rfl ?_
      refine .cons (.move .none (.s rfl)) rfl ?_
      refine .nil ?_
      refine .thenU ?_
      refine .seq ?_
      refine .region [] mixed (by kernel_rfl) ?_
      refine .cons (.lt .none (.s rfl) (.s rfl)) rfl ?_
      refine .nil ?_
      refine .then ?_
      refine .seq ?_
      refine .condT (t := 84) rfl trivial rfl ?_
      refine .skip ?_
      refine .then ?_
      refine .seq ?_
      refine .block ?_
      refine .seq ?_
      refine .region [] mixed (by kernel_rfl) ?_
      refine .cons (.indexAddr .none sl108 tr109 (.s rfl) (.s rfl) (fun _ => ⟨by omega, by simp⟩)) rfl ?_
      refine .cons (.re (v := (⟨s5008⟩ : Raw)) (e := gx [(⟨s5007⟩ : Raw), (⟨s5008⟩ : Raw)] (1 : Int)) rfl (.load .none tr109 (.s rfl))) rfl ?_
      refine .cons (.assign .none (.s rfl)) rfl ?_
      refine .nil ?_
      refine .then ?_
      refine .region [([], []), ([5008], [5008])] mixed (by kernel_rfl) ?_
      refine .consA (.move .none (.s rfl)) rfl ?_
      obtain ⟨r3, hv19, h⟩ := bind_some h
      refine .consW (.callO [5008] (slices_SortFunc_rail_ok hv19) (.cons (.s rfl) (.cons .funcC .nil)) (.cons (k := 5008) rfl .nil) rfl (by decide) (by decide) (by intro d h; cases h; decide)) rfl rfl ?_
      refine .nil ?_
      refine .blkNormal ?_
      refine .then ?_
      refine .region [] mixed (by kernel_rfl) ?_
      refine .cons (.re (v := (2 : Int)) (e := W ((1 : Int) + (1 : Int))) (W_eq ⟨by omega, by omega⟩).symm (.addW .none (.s rfl) (.int (by decide)))) rfl ?_
      refine .cons (.move .none (.s rfl)) rfl ?_
      refine .nil ?_
      refine .thenU ?_
      refine .seq ?_
      refine .region [] mixed (by kernel_rfl) ?_
      refine .cons (.lt .none (.s rfl) (.s rfl)) rfl ?_
      refine .nil ?_
      refine .then ?_
      refine .seq ?_
      refine .condF (t := 84) rfl trivial rfl ?_
      refine .exit ?_
      refine .thenExit ?_
      refine .thenExit ?_
      refine .blkExit ?_
      exact Ends.join _ (some_eq h) (.cons (t := 2) rfl (.cons (t := 3) rfl Sub.nil)) (.cons (t := 5007) rfl (.cons (t := 5008) rfl SubB.nil))
    · subst hj15; have h := hK15; clear hK15
      refine .freezeRow (g := 5007) (ts := [2]) rfl (.cons (t := 2) rfl trivial .nil) (.cons (t := 5008) rfl SubB.nil) rfl ?_
      refine .freezeRow (g := 5008) (ts := [3]) rfl (.cons (t := 3) rfl trivial .nil) SubB.nil rfl ?_
      refine .seq ?_
      refine .region [] mixed (by kernel_rfl) ?_
      refine .cons (.move .none (.s rfl)) rfl ?_
      refine .cons (.move .none (.s rfl)) rfl ?_
      refine .cons (.assign .none (.s rfl)) rfl ?_
      refine .cons (.assign .none (.s rfl)) rfl ?_
      refine .nil ?_
      refine .then ?_
      refine .ret ?_
      obtain rfl := some_eq h
      exact Ends.ret2 (.inl rfl) Try.results107 (ResOK.tmp rfl trivial Imp.refl) (ResOK.tmp rfl trivial Imp.refl)

theorem slices_BinarySearchFunc_int_ok {x1 : (List Geom_rail)} {target1 : Int} {cmp1 : (Geom_rail → Int → Option Int)} {r : (Int × Bool)}  (h : slices_BinarySearchFunc_int x1 target1 cmp1 = some r) : FSpec Try.prog 117 [rep x1, rep target1, fn2 Try.prog (rep (α := Int)) cmp1] (tup [rep r.1, rep r.2]) := by
  unfold slices_BinarySearchFunc_int at h
  refine FSpec.intro (n := 49) fnok117 Try.func117 rfl Try.ntmps117 rfl (fun F => ?_)
  refine .seq ?_
  refine .region [] mixed (by kernel_rfl) ?_
  refine .cons (.assign .none (.int (by decide))) rfl ?_
  refine .cons (.assign .none .bool) rfl ?_
  refine .nil ?_
  refine .then ?_
  refine .seq ?_
  refine .region [] mixed (by kernel_rfl) ?_
  refine .cons (.move .none (.s rfl)) rfl ?_
  refine .cons (.len .none sl109 (.s rfl)) rfl ?_
  obtain ⟨n1, hv1, h⟩ := bnd_some h
  refine .cons (.re hv1 (.assign .none (.s rfl))) rfl ?_
  refine .nil ?_
  refine .then ?_
  refine .seq ?_
  refine .region [] mixed (by kernel_rfl) ?_
  refine .cons (.move .none (.s rfl)) rfl ?_
  refine .cons (.assign .none (.int (by decide))) rfl ?_
  refine .cons (.assign .none (.s rfl)) rfl ?_
  refine .nil ?_
  refine .then ?_
  refine .seq ?_
  obtain ⟨j_2, h, hK2⟩ := bind_some h
  refine .thenJ (ι := Int) (fun j_2 => [(9, ⟨True, rep j_2⟩)]) (fun j_2 => []) (fun s => j_2 = s) (.cons (t := 0) rfl (.cons (t := 1) rfl (.cons (t := 2) rfl (.cons (t := 8) rfl Sub.nil)))) SubB.nil ?_ (fun j_2' hj2 => ?_)
  · skip
    refine .block ?_
    refine .loopL h (fun s3_ => [(9, ⟨True, rep s3_.1⟩), (10, ⟨True, rep s3_.2⟩)]) (fun s3_ => []) (.cons (t := 9) rfl (.cons (t := 10) rfl Sub.nil)) SubB.nil (.cons (t := 0) rfl (.cons (t := 1) rfl (.cons (t := 2) rfl (.cons (t := 8) rfl Sub.nil)))) SubB.nil (fun s3_ o_3 h hD3 => ?_)
    unfold slices_BinarySearchFunc_int_L1 at h
    refine .seq ?_
    refine .seq ?_
    refine .region [] mixed (by kernel_rfl) ?_
    refine .cons (.move .none (.s rfl)) rfl ?_
    refine .cons (.move .none (.s rfl)) rfl ?_
    refine .cons (.lt .none (.s rfl) (.s rfl)) rfl ?_
    refine .nil ?_
    refine .then ?_
    refine .cond (t := 17) rfl trivial (fun hb4 => ?_) (fun hb4 => ?_)
    · replace h := bif_t h hb4
      refine .skip ?_
      refine .then ?_
      refine .block ?_
      refine .seq ?_
      refine .region [] mixed (by kernel_rfl) ?_
      refine .cons (.move .none (.s rfl)) rfl ?_
      refine .cons (.move .none (.s rfl)) rfl ?_
      refine .cons (.addW .none (.s rfl) (.s rfl)) rfl ?_
      refine .cons (.toK .none (by kernel_rfl) Try.underlying119 (.s rfl)) rfl ?_
      refine .cons (.kshr .none (.s rfl) .ki (fun _ => by decide)) rfl ?_
      refine .cons (.toInt .none (by kernel_rfl) Try.underlying3 (.s rfl)) rfl ?_
      obtain ⟨h1, hv5, h⟩ := bnd_some h
      refine .cons (.re hv5 (.assign .none (.s rfl))) rfl ?_
      refine .nil ?_
      refine .then ?_
      refine .seq ?_
      refine .region [] mixed (by kernel_rfl) ?_
      refine .cons (.move .none (.s rfl)) rfl ?_
      refine .cons (.move .none (.s rfl)) rfl ?_
      refine .cons (.move .none (.s rfl)) rfl ?_
      obtain ⟨hn6, h⟩ := need_some h
      refine .cons (.indexAddr .none sl109 ty121 (.s rfl) (.s rfl) (fun _ => hn6)) rfl ?_
      refine .cons (.load .none ty121 (.s rfl)) rfl ?_
      refine .cons (.move .none (.s rfl)) rfl ?_
      obtain ⟨r1, hv7, h⟩ := bind_some h
      refine .cons (.callV (gx x1 h1, target1, r1) .none (.s rfl) (fun _ => hv7) (.cons (.s rfl) (.cons (.s rfl) .nil))) rfl ?_
      refine .cons (.lt .none (.s rfl) (.int (by decide))) rfl ?_
      refine .nil ?_
      refine .then ?_
      refine .cond (t := 31) rfl trivial (fun hb8 => ?_) (fun hb8 => ?_)
      · replace h := bif_t h hb8
        refine .region [] mixed (by kernel_rfl) ?_
        refine .cons (.move .none (.s rfl)) rfl ?_
        refine .cons (.addW .none (.s rfl) (.int (by decide))) rfl ?_
        obtain ⟨i1, hv9, h⟩ := bnd_some h
        refine .cons (.re hv9 (.assign .none (.s rfl))) rfl ?_
        refine .nil ?_
        refine .blkNormal ?_
        exact Ends.againL (some_eq h) (.cons (t := 9) rfl (.cons (t := 10) rfl (.cons (t := 0) rfl (.cons (t := 1) rfl (.cons (t := 2) rfl (.cons (t := 8) rfl Sub.nil)))))) SubB.nil
      · replace h := bif_f h hb8
        refine .region [] mixed (by kernel_rfl) ?_
        refine .cons (.move .none (.s rfl)) rfl ?_
        refine .cons (.assign .none (.s rfl)) rfl ?_
        refine .nil ?_
        refine .blkNormal ?_
        exact Ends.againL (some_eq h) (.cons (t := 9) rfl (.cons (t := 10) rfl (.cons (t := 0) rfl (.cons (t := 1) rfl (.cons (t := 2) rfl (.cons (t := 8) rfl Sub.nil)))))) SubB.nil
    · replace h := bif_f h hb4
      refine .exit ?_
      refine .thenExit ?_
      refine .thenExit ?_
      refine .blkExit ?_
      replace h := hD3 _ (some_eq h)
      exact Ends.join _ (some_eq h) (.cons (t := 9) rfl (.cons (t := 0) rfl (.cons (t := 1) rfl (.cons (t := 2) rfl (.cons (t := 8) rfl Sub.nil))))) SubB.nil
  · subst hj2; have h := hK2; clear hK2
    refine .seq ?_
    refine .region [] mixed (by kernel_rfl) ?_
    refine .cons (.move .none (.s rfl)) rfl ?_
    refine .cons (.move .none (.s rfl)) rfl ?_
    refine .cons (.move .none (.s rfl)) rfl ?_
    refine .cons (.lt .none (.s rfl) (.s rfl)) rfl ?_
    refine .cons (.move .none (.s rfl)) rfl ?_
    refine .cons (.move (.at rfl rfl) (.s rfl)) rfl ?_
    refine .cons (.move (.at rfl rfl) (.s rfl)) rfl ?_
    refine .cons (.move (.at rfl rfl) (.s rfl)) rfl ?_
    obtain ⟨hn10, h⟩ := need_some h
    refine .cons (.indexAddr (.at rfl rfl) sl109 ty121 (.tmp rfl id) (.tmp rfl id) (fun hg => hn10 hg.2)) rfl ?_
    refine .cons (.load (.at rfl rfl) ty121 (.tmp rfl id)) rfl ?_
    refine .cons (.move (.at rfl rfl) (.s rfl)) rfl ?_
    obtain ⟨r2, hv11, h⟩ := bind_some h
    refine .cons (.callV (gx x1 j_2, target1, r2) (.at rfl rfl) (.tmp rfl id) (fun hg => gd_some hv11 (hg.2)) (.cons (.tmp rfl id) (.cons (.tmp rfl id) .nil))) rfl ?_
    refine .cons (.eqI (.at rfl rfl) (.tmp rfl id) (.int (by decide))) rfl ?_
    refine .cons (.pickAnd .none (.s rfl) (.tmp rfl id)) rfl ?_
    refine .cons (.assign .none (.s rfl)) rfl ?_
    refine .cons (.assign .none (.s rfl)) rfl ?_
    refine .nil ?_
    refine .then ?_
    refine .ret ?_
    obtain rfl := some_eq h
    exact Ends.ret2 (.inl rfl) Try.results117 (ResOK.tmp rfl trivial Imp.refl) (ResOK.tmp rfl trivial Imp.refl)

theorem geom_crossed_1_ok {r1 : Geom_rail} {at1 : Int} {r : Int}  (h : geom_crossed_1 r1 at1 = some r) : FSpec Try.prog 118 [rep r1, rep at1] (rep r) := by
  unfold geom_crossed_1 at h
  refine FSpec.intro (n := 9) fnok118 Try.func118 rfl Try.ntmps118 rfl (fun F => ?_)
  refine .seq ?_
  refine .region [] mixed (by kernel_rfl) ?_
  refine .cons (.box .none (.s rfl)) rfl ?_
  refine .cons (.assign .none (.int (by decide))) rfl ?_
  refine .nil ?_
  refine .then ?_
  refine .seq ?_
  refine .region [] mixed (by kernel_rfl) ?_
  refine .cons (.fieldAddr .none fd121_0 hfd121_0 (.s rfl)) rfl ?_
  refine .cons (.load .none ty3 (.s rfl)) rfl ?_
  refine .cons (.move .none (.s rfl)) rfl ?_
  refine .cons (.subW .none (.s rfl) (.s rfl)) rfl ?_
  refine .cons (.assign .none (.s rfl)) rfl ?_
  refine .nil ?_
  refine .then ?_
  refine .ret ?_
  obtain rfl := some_eq h
  exact Ends.ret1 (.inl rfl) Try.results118 (ResOK.tmp rfl trivial Imp.refl)

theorem geom_crossed_ok {mine1 : (List Geom_rail)} {others1 : (List Geom_rail)} {out1 : (List Int)} {r : (List Int)} {s80 : Value} (h : geom_crossed mine1 others1 out1 = some r) : FSpecO Try.prog 108 [rep mine1, rep others1, isV s80] [(s80, rowV 3 out1)] (anyV) [none, some (rowV 3 r)] := by
  unfold geom_crossed at h
  refine FSpecO.intro (n := 80) fnok108 Try.func108 rfl Try.ntmps108 rfl (fun F => ?_)
  refine .seq ?_
  refine .region [] mixed (by kernel_rfl) ?_
  refine .cons (.assign .none (.const (x := ([] : (List Int))) (fun M w => ⟨_, ⟨none, 0, rfl, Nat.le_refl _, by decide, rfl⟩, rfl⟩))) rfl ?_
  refine .nil ?_
  refine .then ?_
  refine .seq ?_
  refine .seq ?_
  refine .region [] mixed (by kernel_rfl) ?_
  refine .cons (.move .none (.s rfl)) rfl ?_
  refine .cons (.len .none sl109 (.s rfl)) rfl ?_
  refine .cons (.move .none (.int (by decide))) rfl ?_
  refine .nil ?_
  refine .then ?_
  obtain ⟨j_1, h, hK1⟩ := bind_some h
  refine .thenJ (ι := (List Int)) (fun j_1 => []) (fun j_1 => [(2, some (rowV 3 j_1))]) (fun s => j_1 = s) Sub.nil SubB.nil ?_ (fun j_1' hj1 => ?_)
  · skip
    refine .block ?_
    refine .anon (t := 2) (g := 80) rfl rfl trivial rfl ?_
    refine .rforL h (fun p2_ => [(15, ⟨True, rep p2_.1⟩)]) (fun p2_ => [(2, some (rowV 3 p2_.2))]) (.cons (t := 15) rfl Sub.nil) (.cons (t := 2) rfl SubB.nil) (.cons (t := 1) rfl (.cons (t := 13) rfl (.cons (t := 14) rfl Sub.nil))) SubB.nil (fun p2_ o_2 h hD2 => ?_)
    refine .nameRow (t := 2) (g := 5001) rfl rfl rfl (fun s5001 => ?_)
    refine .seq ?_
    refine .region [] mixed (by kernel_rfl) ?_
    refine .cons (.lt .none (.s rfl) (.s rfl)) rfl ?_
    refine .nil ?_
    refine .then ?_
    refine .seq ?_
    refine .cond (t := 16) rfl trivial (fun hb3 => ?_) (fun hb3 => ?_)
    · replace h := bif_t h hb3
      refine .skip ?_
      refine .then ?_
      refine .seq ?_
      obtain ⟨j_4, h, hK4⟩ := bind_some h
      unfold geom_crossed_L1 at h
      refine .thenJ (ι := (List Int)) (fun j_4 => []) (fun j_4 => [(2, some (rowV 3 j_4))]) (fun s => j_4 = s) (.cons (t := 1) rfl (.cons (t := 13) rfl (.cons (t := 14) rfl (.cons (t := 15) rfl Sub.nil)))) SubB.nil ?_ (fun j_4' hj4 => ?_)
      · skip
        refine .block ?_
        refine .seq ?_
        refine .region [([], []), ([], []), ([], [8]), ([8], [8])] mixed (by kernel_rfl) ?_
        obtain ⟨hn5, h⟩ := need_some h
        refine .consA (.indexAddr .none sl109 ty121 (.s rfl) (.s rfl) (fun _ => hn5)) rfl ?_
        obtain ⟨v1, hv6, h⟩ := bnd_some h
        refine .consA (.re hv6 (.load .none ty121 (.s rfl))) rfl ?_
        refine .consW (.alloc zo121 rfl) rfl rfl ?_
        refine .consN (.store ty121 rfl rfl (.s rfl)) rfl ?_
        refine .nil ?_
        refine .then ?_
        refine .freeze (t := 8) rfl rfl (.cons (t := 5001) rfl SubB.nil) rfl ?_
        refine .seq ?_
        refine .region [] mixed (by kernel_rfl) ?_
        refine .cons (.move .none (.s rfl)) rfl ?_
        refine .cons (.fieldAddr .none fd121_1 hfd121_1 (.s rfl)) rfl ?_
        refine .cons (.load .none ty3 (.s rfl)) rfl ?_
        refine .cons (.addW .none (.s rfl) (.int (by decide))) rfl ?_
        obtain ⟨r1, hv7, h⟩ := bind_some h
        refine .cons (.call .none (slices_BinarySearchFunc_int_ok hv7) (.cons (.s rfl) (.cons (.s rfl) (.cons (Opd.func (ι := Geom_rail × Int × Int) (pre := fun i => geom_crossed_1 i.1 i.2.1 = some i.2.2) (Ss := fun i => [rep i.1, rep i.2.1]) (S := fun i => rep i.2.2) fnok118 (fun i h => geom_crossed_1_ok h)) .nil)))) rfl ?_
        refine .cons (.move .none (.s rfl)) rfl ?_
        refine .cons (.extract .none (.s rfl) rfl) rfl ?_
        refine .cons (.extract .none (.s rfl) rfl) rfl ?_
        refine .cons (.assign .none (.s rfl)) rfl ?_
        refine .cons (.assign .none (.s rfl)) rfl ?_
        refine .nil ?_
        refine .then ?_
        refine .block ?_
        refine .anon (t := 2) (g := 5001) rfl rfl trivial rfl ?_
        refine .loopL h (fun s8_ => [(9, ⟨True, rep s8_.2⟩)]) (fun s8_ => [(2, some (rowV 3 s8_.1))]) (.cons (t := 9) rfl Sub.nil) (.cons (t := 2) rfl SubB.nil) (.cons (t := 1) rfl (.cons (t := 8) rfl (.cons (t := 13) rfl (.cons (t := 14) rfl (.cons (t := 15) rfl Sub.nil))))) SubB.nil (fun s8_ o_8 h hD8 => ?_)
        unfold geom_crossed_L2 at h
        refine .nameRow (t := 2) (g := 5002) rfl rfl rfl (fun s5002 => ?_)
        refine .seq ?_
        refine .seq ?_
        refine .region [] mixed (by kernel_rfl) ?_
        refine .cons (.move .none (.s rfl)) rfl ?_
        refine .cons (.move .none (.s rfl)) rfl ?_
        refine .cons (.len .none sl109 (.s rfl)) rfl ?_
        refine .cons (.lt .none (.s rfl) (.s rfl)) rfl ?_
        refine .cons (.move .none (.s rfl)) rfl ?_
        refine .cons (.move (.at rfl rfl) (.s rfl)) rfl ?_
        refine .cons (.move (.at rfl rfl) (.s rfl)) rfl ?_
        obtain ⟨hn9, h⟩ := need_some h
        refine .cons (.indexAddr (.at rfl rfl) sl109 ty121 (.tmp rfl id) (.tmp rfl id) (fun hg => hn9 hg.2)) rfl ?_
        refine .cons (.fieldAddr (.at rfl rfl) fd121_0 hfd121_0 (.tmp rfl id)) rfl ?_
        refine .cons (.load (.at rfl rfl) ty3 (.tmp rfl id)) rfl ?_
        refine .cons (.fieldAddr (.at rfl rfl) fd121_2 hfd121_2 (.s rfl)) rfl ?_
        refine .cons (.load (.at rfl rfl) ty3 (.tmp rfl id)) rfl ?_
        refine .cons (.lt (.at rfl rfl) (.tmp rfl id) (.tmp rfl id)) rfl ?_
        refine .cons (.pickAnd .none (.s rfl) (.tmp rfl id)) rfl ?_
        refine .nil ?_
        refine .then ?_
        refine .cond (t := 40) rfl trivial (fun hb10 => ?_) (fun hb10 => ?_)
        · replace h := bif_t h hb10
          refine .skip ?_
          refine .then ?_
          refine .seq ?_
          obtain ⟨j_11, h, hK11⟩ := bind_some h
          refine .thenJ (ι := (List Int)) (fun j_11 => []) (fun j_11 => [(2, some (rowV 3 j_11))]) (fun s => j_11 = s) (.cons (t := 1) rfl (.cons (t := 8) rfl (.cons (t := 9) rfl (.cons (t := 13) rfl (.cons (t := 14) rfl (.cons (t := 15) rfl Sub.nil)))))) SubB.nil ?_ (fun j_11' hj11 => ?_)
          · skip
            refine .block ?_
            refine .seq ?_
            refine .region [([], []), ([], []), ([], []), ([], []), ([], [11]), ([11], [11])] mixed (by kernel_rfl) ?_
            refine .consA (.move .none (.s rfl)) rfl ?_
            refine .consA (.move .none (.s rfl)) rfl ?_
            obtain ⟨hn12, h⟩ := need_some h
            refine .consA (.indexAddr .none sl109 ty121 (.s rfl) (.s rfl) (fun _ => hn12)) rfl ?_
            obtain ⟨v2, hv13, h⟩ := bnd_some h
            refine .consA (.re hv13 (.load .none ty121 (.s rfl))) rfl ?_
            refine .consW (.alloc zo121 rfl) rfl rfl ?_
            refine .consN (.store ty121 rfl rfl (.s rfl)) rfl ?_
            refine .nil ?_
            refine .then ?_
            refine .freeze (t := 11) rfl rfl (.cons (t := 5002) rfl SubB.nil) rfl ?_
            refine .seq ?_
            refine .region [] mixed (by kernel_rfl) ?_
            refine .cons (.fieldAddr .none fd121_1 hfd121_1 (.s rfl)) rfl ?_
            refine .cons (.load .none ty3 (.s rfl)) rfl ?_
            refine .cons (.fieldAddr .none fd121_0 hfd121_0 (.s rfl)) rfl ?_
            refine .cons (.load .none ty3 (.s rfl)) rfl ?_
            refine .cons (.lt .none (.s rfl) (.s rfl)) rfl ?_
            refine .cons (.move .none (.s rfl)) rfl ?_
            refine .cons (.fieldAddr (.at rfl rfl) fd121_0 hfd121_0 (.s rfl)) rfl ?_
            refine .cons (.load (.at rfl rfl) ty3 (.tmp rfl id)) rfl ?_
            refine .cons (.fieldAddr (.at rfl rfl) fd121_2 hfd121_2 (.s rfl)) rfl ?_
            refine .cons (.load (.at rfl rfl) ty3 (.tmp rfl id)) rfl ?_
            refine .cons (.lt (.at rfl rfl) (.tmp rfl id) (.tmp rfl id)) rfl ?_
            refine .cons (.pickAnd .none (.s rfl) (.tmp rfl id)) rfl ?_
            refine .nil ?_
            refine .then ?_
            refine .cond (t := 58) rfl trivial (fun hb14 => ?_) (fun hb14 => ?_)
            · replace h := bif_t h hb14
              refine .seq ?_
              refine .region [] mixed (by kernel_rfl) ?_
              refine .cons (.fieldAddr .none fd121_0 hfd121_0 (.s rfl)) rfl ?_
              refine .cons (.load .none ty3 (.s rfl)) rfl ?_
              refine .cons (.fieldAddr .none fd121_1 hfd121_1 (.s rfl)) rfl ?_
              refine .cons (.load .none ty3 (.s rfl)) rfl ?_
              refine .cons (.subW .none (.s rfl) (.s rfl)) rfl ?_
              refine .cons (.assign .none (.s rfl)) rfl ?_
              refine .nil ?_
              refine .then ?_
              refine .seq ?_
              refine .seq ?_
              refine .region [] mixed (by kernel_rfl) ?_
              refine .cons (.fieldAddr .none fd121_4 hfd121_4 (.s rfl)) rfl ?_
              refine .cons (.load .none ty4 (.s rfl)) rfl ?_
              refine .nil ?_
              refine .then ?_
              obtain ⟨j_15, h, hK15⟩ := bind_some h
              refine .thenJ (ι := Int) (fun j_15 => [(12, ⟨True, rep j_15⟩)]) (fun j_15 => []) (fun s => j_15 = s) (.cons (t := 1) rfl (.cons (t := 2) rfl (.cons (t := 8) rfl (.cons (t := 9) rfl (.cons (t := 13) rfl (.cons (t := 14) rfl (.cons (t := 15) rfl Sub.nil))))))) (.cons (t := 5002) rfl SubB.nil) ?_ (fun j_15' hj15 => ?_)
              · skip
                refine .cond (t := 65) rfl trivial (fun hb16 => ?_) (fun hb16 => ?_)
                · replace h := bif_t h hb16
                  refine .region [] mixed (by kernel_rfl) ?_
                  refine .cons (.fieldAddr .none fd121_2 hfd121_2 (.s rfl)) rfl ?_
                  refine .cons (.load .none ty3 (.s rfl)) rfl ?_
                  refine .cons (.fieldAddr .none fd121_0 hfd121_0 (.s rfl)) rfl ?_
                  refine .cons (.load .none ty3 (.s rfl)) rfl ?_
                  refine .cons (.subW .none (.s rfl) (.s rfl)) rfl ?_
                  refine .cons (.assign .none (.s rfl)) rfl ?_
                  refine .nil ?_
                  exact Ends.join _ (some_eq h) (.cons (t := 12) rfl (.cons (t := 1) rfl (.cons (t := 2) rfl (.cons (t := 8) rfl (.cons (t := 9) rfl (.cons (t := 13) rfl (.cons (t := 14) rfl (.cons (t := 15) rfl Sub.nil)))))))) (.cons (t := 5002) rfl SubB.nil)
                · replace h := bif_f h hb16
                  refine .skip ?_
                  exact Ends.join _ (some_eq h) (.cons (t := 12) rfl (.cons (t := 1) rfl (.cons (t := 2) rfl (.cons (t := 8) rfl (.cons (t := 9) rfl (.cons (t := 13) rfl (.cons (t := 14) rfl (.cons (t := 15) rfl Sub.nil)))))))) (.cons (t := 5002) rfl SubB.nil)
              · subst hj15; have h := hK15; clear hK15
                refine .region [([], []), ([], []), ([], []), ([], []), ([], []), ([], []), ([5002], [77, 5002]), ([77], [2, 77])] mixed (by kernel_rfl) ?_
                refine .consA (.move .none (.s rfl)) rfl ?_
                refine .consA (.fieldAddr .none fd121_3 hfd121_3 (.s rfl)) rfl ?_
                refine .consA (.load .none ty3 (.s rfl)) rfl ?_
                refine .consA (.move .none (.s rfl)) rfl ?_
                refine .consA (.addW .none (.s rfl) (.s rfl)) rfl ?_
                refine .consA (.buildSlice (xs := [_]) .none sl90 ty3 hz3 (.cons (.s rfl) .nil) rfl (by decide)) rfl ?_
                obtain ⟨hn17, h⟩ := need_some h
                refine .consW (.append (k := 5002) rk90 rfl (.told (.s rfl) rfl) (.s rfl) hn17) rfl rfl ?_
                refine .consW (.passRow rfl (.tmp rfl)) rfl rfl ?_
                refine .nil ?_
                refine .blkNormal ?_
                exact Ends.join _ (some_eq h) (.cons (t := 1) rfl (.cons (t := 8) rfl (.cons (t := 9) rfl (.cons (t := 13) rfl (.cons (t := 14) rfl (.cons (t := 15) rfl Sub.nil)))))) (.cons (t := 2) rfl SubB.nil)
            · replace h := bif_f h hb14
              refine .skip ?_
              refine .blkNormal ?_
              refine .anon (t := 2) (g := 5002) rfl rfl trivial rfl ?_
              exact Ends.join _ (some_eq h) (.cons (t := 1) rfl (.cons (t := 8) rfl (.cons (t := 9) rfl (.cons (t := 13) rfl (.cons (t := 14) rfl (.cons (t := 15) rfl Sub.nil)))))) (.cons (t := 2) rfl SubB.nil)
          · subst hj11; have h := hK11; clear hK11
            refine .nameRow (t := 2) (g := 5003) rfl rfl rfl (fun s5003 => ?_)
            refine .region [] mixed (by kernel_rfl) ?_
            refine .cons (.move .none (.s rfl)) rfl ?_
            refine .cons (.addW .none (.s rfl) (.int (by decide))) rfl ?_
            obtain ⟨k1, hv18, h⟩ := bnd_some h
            refine .cons (.re hv18 (.assign .none (.s rfl))) rfl ?_
            refine .nil ?_
            refine .anon (t := 2) (g := 5003) rfl rfl trivial rfl ?_
            exact Ends.againL (some_eq h) (.cons (t := 9) rfl (.cons (t := 1) rfl (.cons (t := 8) rfl (.cons (t := 13) rfl (.cons (t := 14) rfl (.cons (t := 15) rfl Sub.nil)))))) (.cons (t := 2) rfl SubB.nil)
        · replace h := bif_f h hb10
          refine .exit ?_
          refine .thenExit ?_
          refine .thenExit ?_
          refine .blkExit ?_
          refine .blkNormal ?_
          refine .anon (t := 2) (g := 5002) rfl rfl trivial rfl ?_
          replace h := hD8 _ (some_eq h)
          exact Ends.join _ (some_eq h) (.cons (t := 1) rfl (.cons (t := 13) rfl (.cons (t := 14) rfl (.cons (t := 15) rfl Sub.nil)))) (.cons (t := 2) rfl SubB.nil)
      · subst hj4; have h := hK4; clear hK4
        refine .nameRow (t := 2) (g := 5004) rfl rfl rfl (fun s5004 => ?_)
        refine .region [] mixed (by kernel_rfl) ?_
        refine .cons (.addW .none (.s rfl) (.int (by decide))) rfl ?_
        refine .cons (.move .none (.s rfl)) rfl ?_
        refine .nil ?_
        refine .anon (t := 2) (g := 5004) rfl rfl trivial rfl ?_
        exact Ends.againL (some_eq h) (.cons (t := 15) rfl (.cons (t := 1) rfl (.cons (t := 13) rfl (.cons (t := 14) rfl Sub.nil)))) (.cons (t := 2) rfl SubB.nil)
    · replace h := bif_f h hb3
      refine .exit ?_
      refine .thenExit ?_
      refine .thenExit ?_
      refine .blkExit ?_
      refine .anon (t := 2) (g := 5001) rfl rfl trivial rfl ?_
      replace h := hD2 _ (some_eq h)
      exact Ends.join _ (some_eq h) Sub.nil (.cons (t := 2) rfl SubB.nil)
  · subst hj1; have h := hK1; clear hK1
    refine .nameRow (t := 2) (g := 5005) rfl rfl rfl (fun s5005 => ?_)
    refine .seq ?_
    refine .region [] mixed (by kernel_rfl) ?_
    refine .cons (.move .none (.s rfl)) rfl ?_
    refine .cons (.assign .none (.s rfl)) rfl ?_
    refine .nil ?_
    refine .then ?_
    refine .ret ?_
    refine .anon (t := 6) (g := 5005) rfl rfl trivial rfl ?_
    obtain rfl := some_eq h
    exact Ends.ret1O (.inl rfl) [80, 6] Try.results108 (by decide) (.skip (.res rfl rfl)) (ResOK.tmp rfl trivial (fun _ _ _ _ => trivial))

theorem geom_Jumps_ok {l1 : (List (List Point))} {r : ((List (List Int)) × Int)}  (h : geom_Jumps l1 = some r) : FSpec Try.prog 74 [rep l1] (tup [rep r.1, rep r.2]) := by
  unfold geom_Jumps at h
  refine FSpec.intro (n := 79) fnok74 Try.func74 rfl Try.ntmps74 rfl (fun F => ?_)
  refine .seq ?_
  refine .region [] mixed (by kernel_rfl) ?_
  refine .cons (.assign .none (.const (x := ([] : (List (List Int)))) (fun M w => ⟨_, ⟨none, 0, rfl, Nat.le_refl _, by decide, rfl⟩, rfl⟩))) rfl ?_
  refine .cons (.assign .none (.int (by decide))) rfl ?_
  refine .nil ?_
  refine .then ?_
  refine .seq ?_
  refine .seq ?_
  refine .region [] mixed (by kernel_rfl) ?_
  refine .cons (.move .none (.s rfl)) rfl ?_
  refine .cons (.len .none sl85 (.s rfl)) rfl ?_
  refine .cons (.gt .none (.s rfl) (.int (by decide))) rfl ?_
  refine .nil ?_
  refine .then ?_
  refine .cond (t := 18) rfl trivial (fun hb1 => ?_) (fun hb1 => ?_)
  · replace h := bif_t h hb1
    refine .seq ?_
    refine .region [] mixed (by kernel_rfl) ?_
    refine .cons (.assign .none (.const (x := ([] : (List (List Int)))) (fun M w => ⟨_, ⟨none, 0, rfl, Nat.le_refl _, by decide, rfl⟩, rfl⟩))) rfl ?_
    refine .cons (.assign .none (.int (by decide))) rfl ?_
    refine .nil ?_
    refine .then ?_
    refine .ret ?_
    refine .thenRet ?_
    obtain rfl := some_eq h
    exact Ends.ret2 (.inl rfl) Try.results74 (ResOK.tmp rfl trivial Imp.refl) (ResOK.tmp rfl trivial Imp.refl)
  · replace h := bif_f h hb1
    refine .skip ?_
    refine .then ?_
    refine .seq ?_
    refine .seq ?_
    refine .region [] mixed (by kernel_rfl) ?_
    refine .cons (.move .none (.s rfl)) rfl ?_
    refine .cons (.len .none sl85 (.s rfl)) rfl ?_
    refine .cons (.move .none (.int (by decide))) rfl ?_
    refine .nil ?_
    refine .then ?_
    obtain ⟨o_2, h, hK2⟩ := bindR_some h
    refine .thenJ (ι := Unit) (fun j_2 => []) (fun j_2 => []) (fun s => o_2 = Res.nx s) (.cons (t := 0) rfl Sub.nil) SubB.nil ?_ (fun j_2 hj2 => ?_)
    · skip
      refine .block ?_
      refine .rforEL h (fun p3_ => [(21, ⟨True, rep p3_.1⟩)]) (fun p3_ => []) (.cons (t := 21) rfl Sub.nil) SubB.nil (.cons (t := 0) rfl (.cons (t := 19) rfl (.cons (t := 20) rfl Sub.nil))) SubB.nil (fun p3_ o_3 h hD3 => ?_)
      refine .seq ?_
      refine .region [] mixed (by kernel_rfl) ?_
      refine .cons (.lt .none (.s rfl) (.s rfl)) rfl ?_
      refine .nil ?_
      refine .then ?_
      refine .seq ?_
      refine .cond (t := 22) rfl trivial (fun hb4 => ?_) (fun hb4 => ?_)
      · replace h := bif_t h hb4
        refine .skip ?_
        refine .then ?_
        refine .seq ?_
        obtain ⟨o_5, h, hK5⟩ := bindD_some h
        unfold geom_Jumps_L1 at h
        refine .thenJ (ι := Unit) (fun j_5 => []) (fun j_5 => []) (fun s => o_5 = Res.nx s) (.cons (t := 0) rfl (.cons (t := 19) rfl (.cons (t := 20) rfl (.cons (t := 21) rfl Sub.nil)))) SubB.nil ?_ (fun j_5 hj5 => ?_)
        · skip
          refine .block ?_
          refine .seq ?_
          refine .region [] mixed (by kernel_rfl) ?_
          obtain ⟨hn6, h⟩ := need_some h
          refine .cons (.indexAddr .none sl85 ty66 (.s rfl) (.s rfl) (fun _ => hn6)) rfl ?_
          refine .cons (.load .none ty66 (.s rfl)) rfl ?_
          refine .cons (.assign .none (.s rfl)) rfl ?_
          refine .nil ?_
          refine .then ?_
          refine .seq ?_
          refine .region [] mixed (by kernel_rfl) ?_
          refine .cons (.move .none (.s rfl)) rfl ?_
          obtain ⟨e1, hv7, h⟩ := bind_some h
          refine .cons (.call .none (geom_CheckPath_ok hv7) (.cons (.s rfl) .nil)) rfl ?_
          refine .cons (.assign .none (.s rfl)) rfl ?_
          refine .nil ?_
          refine .then ?_
          refine .seq ?_
          refine .region [] mixed (by kernel_rfl) ?_
          refine .cons (.move .none (.s rfl)) rfl ?_
          refine .cons (.neI .none (.s rfl) (.int (by decide))) rfl ?_
          refine .nil ?_
          refine .then ?_
          refine .cond (t := 28) rfl trivial (fun hb8 => ?_) (fun hb8 => ?_)
          · replace h := bif_t h hb8
            refine .seq ?_
            refine .region [] mixed (by kernel_rfl) ?_
            refine .cons (.move .none (.s rfl)) rfl ?_
            refine .cons (.assign .none (.const (x := ([] : (List (List Int)))) (fun M w => ⟨_, ⟨none, 0, rfl, Nat.le_refl _, by decide, rfl⟩, rfl⟩))) rfl ?_
            refine .cons (.assign .none (.s rfl)) rfl ?_
            refine .nil ?_
            refine .then ?_
            refine .ret ?_
            refine .blkRet ?_
            refine .thenRet ?_
            refine .thenRet ?_
            refine .blkRet ?_
            refine .thenRet ?_
            replace h := resd_ab hK5 (some_eq h)
            replace h := hD3 _ (some_eq h)
            replace h := resb_ab hK2 (some_eq h)
            obtain rfl := some_eq h
            exact Ends.ret2 (.inl rfl) Try.results74 (ResOK.tmp rfl trivial Imp.refl) (ResOK.tmp rfl trivial Imp.refl)
          · replace h := bif_f h hb8
            refine .skip ?_
            refine .blkNormal ?_
            exact Ends.join _ (some_eq h) (.cons (t := 0) rfl (.cons (t := 19) rfl (.cons (t := 20) rfl (.cons (t := 21) rfl Sub.nil)))) SubB.nil
        · have h := resd_nx hK5 hj5
          refine .region [] mixed (by kernel_rfl) ?_
          refine .cons (.addW .none (.s rfl) (.int (by decide))) rfl ?_
          refine .cons (.move .none (.s rfl)) rfl ?_
          refine .nil ?_
          exact Ends.againL (some_eq h) (.cons (t := 21) rfl (.cons (t := 0) rfl (.cons (t := 19) rfl (.cons (t := 20) rfl Sub.nil)))) SubB.nil
      · replace h := bif_f h hb4
        refine .exit ?_
        refine .thenExit ?_
        refine .thenExit ?_
        refine .blkExit ?_
        replace h := hD3 _ (some_eq h)
        exact Ends.join _ (some_eq h) (.cons (t := 0) rfl Sub.nil) SubB.nil
    · have h := resb_nx hK2 hj2
      refine .seq ?_
      refine .region [([], [7])] mixed (by kernel_rfl) ?_
      refine .consW (.nilRow (T := 90) (α := (List Int)) rfl) rfl rfl ?_
      refine .nil ?_
      refine .then ?_
      refine .nameRow (t := 7) (g := 5001) rfl rfl rfl (fun s5001 => ?_)
      refine .seq ?_
      refine .region [([], [8]), ([], [9])] mixed (by kernel_rfl) ?_
      refine .consW (.nilRow (T := 109) (α := (List Geom_rail)) rfl) rfl rfl ?_
      refine .consW (.nilRow (T := 109) (α := (List Geom_rail)) rfl) rfl rfl ?_
      refine .nil ?_
      refine .then ?_
      refine .nameRow (t := 8) (g := 5002) rfl rfl rfl (fun s5002 => ?_)
      refine .nameRow (t := 9) (g := 5003) rfl rfl rfl (fun s5003 => ?_)
      refine .seq ?_
      refine .seq ?_
      refine .region [] mixed (by kernel_rfl) ?_
      refine .cons (.move .none (.s rfl)) rfl ?_
      refine .cons (.len .none sl85 (.s rfl)) rfl ?_
      refine .cons (.move .none (.int (by decide))) rfl ?_
      refine .nil ?_
      refine .then ?_
      obtain ⟨j_9, h, hK9⟩ := bind_some h
      refine .thenJ (ι := ((List (List Int)) × (List (List Geom_rail)) × (List (List Geom_rail)))) (fun j_9 => []) (fun j_9 => [(7, some (rowV 90 j_9.1)), (8, some (rowV 109 j_9.2.1)), (9, some (rowV 109 j_9.2.2))]) (fun s => j_9 = s) Sub.nil SubB.nil ?_ (fun j_9' hj9 => ?_)
      · skip
        refine .block ?_
        refine .anon (t := 7) (g := 5001) rfl rfl trivial rfl ?_
        refine .anon (t := 8) (g := 5002) rfl rfl trivial rfl ?_
        refine .anon (t := 9) (g := 5003) rfl rfl trivial rfl ?_
        refine .rforL h (fun p10_ => [(33, ⟨True, rep p10_.1⟩)]) (fun p10_ => [(7, some (rowV 90 p10_.2.1)), (8, some (rowV 109 p10_.2.2.1)), (9, some (rowV 109 p10_.2.2.2))]) (.cons (t := 33) rfl Sub.nil) (.cons (t := 7) rfl (.cons (t := 8) rfl (.cons (t := 9) rfl SubB.nil))) (.cons (t := 31) rfl (.cons (t := 32) rfl Sub.nil)) SubB.nil (fun p10_ o_10 h hD10 => ?_)
        refine .nameRow (t := 7) (g := 5004) rfl rfl rfl (fun s5004 => ?_)
        refine .nameRow (t := 8) (g := 5005) rfl rfl rfl (fun s5005 => ?_)
        refine .nameRow (t := 9) (g := 5006) rfl rfl rfl (fun s5006 => ?_)
        refine .seq ?_
        refine .region [] mixed (by kernel_rfl) ?_
        refine .cons (.lt .none (.s rfl) (.s rfl)) rfl ?_
        refine .nil ?_
        refine .then ?_
        refine .seq ?_
        refine .cond (t := 34) rfl trivial (fun hb11 => ?_) (fun hb11 => ?_)
        · replace h := bif_t h hb11
          refine .skip ?_
          refine .then ?_
          refine .seq ?_
          obtain ⟨j_12, h, hK12⟩ := bind_some h
          unfold geom_Jumps_L2 at h
          refine .thenJ (ι := ((List (List Int)) × (List (List Geom_rail)) × (List (List Geom_rail)))) (fun j_12 => []) (fun j_12 => [(7, some (rowV 90 j_12.1)), (8, some (rowV 109 j_12.2.1)), (9, some (rowV 109 j_12.2.2))]) (fun s => j_12 = s) (.cons (t := 31) rfl (.cons (t := 32) rfl (.cons (t := 33) rfl Sub.nil))) SubB.nil ?_ (fun j_12' hj12 => ?_)
          · skip
            refine .block ?_
            refine .seq ?_
            refine .region [] mixed (by kernel_rfl) ?_
            obtain ⟨hn13, h⟩ := need_some h
            refine .cons (.indexAddr .none sl85 ty66 (.s rfl) (.s rfl) (fun _ => hn13)) rfl ?_
            refine .cons (.load .none ty66 (.s rfl)) rfl ?_
            refine .cons (.assign .none (.s rfl)) rfl ?_
            refine .nil ?_
            refine .then ?_
            refine .seq ?_
            refine .region [] mixed (by kernel_rfl) ?_
            refine .cons (.move .none (.s rfl)) rfl ?_
            obtain ⟨r1, hv14, h⟩ := bind_some h
            refine .cons (.call .none (geom_rails_ok hv14) (.cons (.s rfl) .nil)) rfl ?_
            refine .cons (.move .none (.s rfl)) rfl ?_
            refine .cons (.extract .none (.s rfl) rfl) rfl ?_
            refine .cons (.extract .none (.s rfl) rfl) rfl ?_
            refine .cons (.assign .none (.s rfl)) rfl ?_
            refine .cons (.assign .none (.s rfl)) rfl ?_
            refine .nil ?_
            refine .then ?_
            refine .seq ?_
            refine .region [([], [14])] mixed (by kernel_rfl) ?_
            refine .consW (.nilRow (T := 3) (α := Int) rfl) rfl rfl ?_
            refine .nil ?_
            refine .then ?_
            refine .nameRow (t := 14) (g := 5007) rfl rfl rfl (fun s5007 => ?_)
            refine .seq ?_
            refine .seq ?_
            refine .region [([], []), ([5005], []), ([], [])] mixed (by kernel_rfl) ?_
            refine .consA (.move .none (.s rfl)) rfl ?_
            refine .consA (.lenO (k := 5005) sl108 (.told (.s rfl) rfl)) rfl ?_
            refine .consA (.move .none (.int (by decide))) rfl ?_
            refine .nil ?_
            refine .then ?_
            obtain ⟨j_15, h, hK15⟩ := bind_some h
            refine .thenJ (ι := (List Int)) (fun j_15 => []) (fun j_15 => [(14, some (rowV 3 j_15))]) (fun s => j_15 = s) (.cons (t := 7) rfl (.cons (t := 8) rfl (.cons (t := 9) rfl (.cons (t := 12) rfl (.cons (t := 13) rfl (.cons (t := 31) rfl (.cons (t := 32) rfl (.cons (t := 33) rfl Sub.nil)))))))) (.cons (t := 5004) rfl (.cons (t := 5005) rfl (.cons (t := 5006) rfl SubB.nil))) ?_ (fun j_15' hj15 => ?_)
            · skip
              refine .block ?_
              refine .anon (t := 14) (g := 5007) rfl rfl trivial rfl ?_
              refine .rforL h (fun p16_ => [(44, ⟨True, rep p16_.1⟩)]) (fun p16_ => [(14, some (rowV 3 p16_.2))]) (.cons (t := 44) rfl Sub.nil) (.cons (t := 14) rfl SubB.nil) (.cons (t := 7) rfl (.cons (t := 8) rfl (.cons (t := 9) rfl (.cons (t := 12) rfl (.cons (t := 13) rfl (.cons (t := 31) rfl (.cons (t := 32) rfl (.cons (t := 33) rfl (.cons (t := 43) rfl Sub.nil))))))))) (.cons (t := 5004) rfl (.cons (t := 5005) rfl (.cons (t := 5006) rfl SubB.nil))) (fun p16_ o_16 h hD16 => ?_)
              refine .nameRow (t := 14) (g := 5008) rfl rfl rfl (fun s5008 => ?_)
              refine .seq ?_
              refine .region [] mixed (by kernel_rfl) ?_
              refine .cons (.lt .none (.s rfl) (.s rfl)) rfl ?_
              refine .nil ?_
              refine .then ?_
              refine .seq ?_
              refine .cond (t := 45) rfl trivial (fun hb17 => ?_) (fun hb17 => ?_)
              · replace h := bif_t h hb17
                refine .skip ?_
                refine .then ?_
                refine .seq ?_
                obtain ⟨j_18, h, hK18⟩ := bind_some h
                unfold geom_Jumps_L3 at h
                refine .thenJ (ι := (List Int)) (fun j_18 => []) (fun j_18 => [(14, some (rowV 3 j_18))]) (fun s => j_18 = s) (.cons (t := 7) rfl (.cons (t := 8) rfl (.cons (t := 9) rfl (.cons (t := 12) rfl (.cons (t := 13) rfl (.cons (t := 31) rfl (.cons (t := 32) rfl (.cons (t := 33) rfl (.cons (t := 43) rfl (.cons (t := 44) rfl Sub.nil)))))))))) (.cons (t := 5004) rfl (.cons (t := 5005) rfl (.cons (t := 5006) rfl SubB.nil))) ?_ (fun j_18' hj18 => ?_)
                · skip
                  refine .block ?_
                  refine .seq ?_
                  refine .region [] mixed (by kernel_rfl) ?_
                  refine .cons (.move .none (.s rfl)) rfl ?_
                  refine .cons (.assign .none (.s rfl)) rfl ?_
                  refine .nil ?_
                  refine .then ?_
                  refine .seq ?_
                  refine .region [([], []), ([], []), ([], []), ([5006], []), ([5006], []), ([], []), ([5008], [5008, 53]), ([53], [14, 53])] mixed (by kernel_rfl) ?_
                  refine .consA (.move .none (.s rfl)) rfl ?_
                  refine .consA (.move .none (.s rfl)) rfl ?_
                  refine .consA (.move .none (.s rfl)) rfl ?_
                  obtain ⟨hn19, h⟩ := need_some h
                  refine .consA (.indexAddrO (k := 5006) .none sl108 ty109 (.s rfl) rfl (.s rfl) (fun _ => hn19)) rfl ?_
                  refine .consA (.loadElem0 (k := 5006) .none ty109 (.s rfl) rfl (fun _ => hn19)) rfl ?_
                  refine .consA (.move .none (.s rfl)) rfl ?_
                  obtain ⟨jumps1, hv20, h⟩ := bind_some h
                  refine .consW (.callO [5008] (geom_crossed_ok hv20) (.cons (.s rfl) (.cons (.s rfl) (.cons (.s rfl) .nil))) (.cons (k := 5008) rfl .nil) rfl (by decide) (by decide) (by intro d h; cases h; decide)) rfl rfl ?_
                  refine .consWD (.passRow rfl (.tmp rfl)) rfl rfl ?_
                  refine .nil ?_
                  refine .then ?_
                  refine .nameRow (t := 14) (g := 5009) rfl rfl rfl (fun s5009 => ?_)
                  refine .region [([], []), ([], []), ([], []), ([5005], []), ([5005], []), ([], []), ([5009], [5009, 60]), ([60], [14, 60])] mixed (by kernel_rfl) ?_
                  refine .consA (.move .none (.s rfl)) rfl ?_
                  refine .consA (.move .none (.s rfl)) rfl ?_
                  refine .consA (.move .none (.s rfl)) rfl ?_
                  obtain ⟨hn21, h⟩ := need_some h
                  refine .consA (.indexAddrO (k := 5005) .none sl108 ty109 (.s rfl) rfl (.s rfl) (fun _ => hn21)) rfl ?_
                  refine .consA (.loadElem0 (k := 5005) .none ty109 (.s rfl) rfl (fun _ => hn21)) rfl ?_
                  refine .consA (.move .none (.s rfl)) rfl ?_
                  obtain ⟨jumps2, hv22, h⟩ := bind_some h
                  refine .consW (.callO [5009] (geom_crossed_ok hv22) (.cons (.s rfl) (.cons (.s rfl) (.cons (.s rfl) .nil))) (.cons (k := 5009) rfl .nil) rfl (by decide) (by decide) (by intro d h; cases h; decide)) rfl rfl ?_
                  refine .consWD (.passRow rfl (.tmp rfl)) rfl rfl ?_
                  refine .nil ?_
                  refine .blkNormal ?_
                  exact Ends.join _ (some_eq h) (.cons (t := 7) rfl (.cons (t := 8) rfl (.cons (t := 9) rfl (.cons (t := 12) rfl (.cons (t := 13) rfl (.cons (t := 31) rfl (.cons (t := 32) rfl (.cons (t := 33) rfl (.cons (t := 43) rfl (.cons (t := 44) rfl Sub.nil)))))))))) (.cons (t := 14) rfl (.cons (t := 5004) rfl (.cons (t := 5005) rfl (.cons (t := 5006) rfl SubB.nil))))
                · subst hj18; have h := hK18; clear hK18
                  refine .nameRow (t := 14) (g := 5010) rfl rfl rfl (fun s5010 => ?_)
                  refine .region [] mixed (by kernel_rfl) ?_
                  refine .cons (.addW .none (.s rfl) (.int (by decide))) rfl ?_
                  refine .cons (.move .none (.s rfl)) rfl ?_
                  refine .nil ?_
                  refine .anon (t := 14) (g := 5010) rfl rfl trivial rfl ?_
                  exact Ends.againL (some_eq h) (.cons (t := 44) rfl (.cons (t := 7) rfl (.cons (t := 8) rfl (.cons (t := 9) rfl (.cons (t := 12) rfl (.cons (t := 13) rfl (.cons (t := 31) rfl (.cons (t := 32) rfl (.cons (t := 33) rfl (.cons (t := 43) rfl Sub.nil)))))))))) (.cons (t := 14) rfl (.cons (t := 5004) rfl (.cons (t := 5005) rfl (.cons (t := 5006) rfl SubB.nil))))
              · replace h := bif_f h hb17
                refine .exit ?_
                refine .thenExit ?_
                refine .thenExit ?_
                refine .blkExit ?_
                refine .anon (t := 14) (g := 5008) rfl rfl trivial rfl ?_
                replace h := hD16 _ (some_eq h)
                exact Ends.join _ (some_eq h) (.cons (t := 7) rfl (.cons (t := 8) rfl (.cons (t := 9) rfl (.cons (t := 12) rfl (.cons (t := 13) rfl (.cons (t := 31) rfl (.cons (t := 32) rfl (.cons (t := 33) rfl Sub.nil)))))))) (.cons (t := 14) rfl (.cons (t := 5004) rfl (.cons (t := 5005) rfl (.cons (t := 5006) rfl SubB.nil))))
            · subst hj15; have h := hK15; clear hK15
              refine .nameRow (t := 14) (g := 5011) rfl rfl rfl (fun s5011 => ?_)
              refine .seq ?_
              refine .region [([], []), ([], []), ([], []), ([5005], [65, 5005]), ([], []), ([], []), ([], []), ([5006], [69, 5006]), ([65], [8, 65]), ([69], [9, 69])] mixed (by kernel_rfl) ?_
              refine .consA (.move .none (.s rfl)) rfl ?_
              refine .consA (.move .none (.s rfl)) rfl ?_
              refine .consA (.buildSlice (xs := [_]) .none sl108 ty109 hz109 (.cons (.s rfl) .nil) rfl (by decide)) rfl ?_
              obtain ⟨hn23, h⟩ := need_some h
              refine .consW (.append (k := 5005) rk108 rfl (.told (.s rfl) rfl) (.s rfl) hn23) rfl rfl ?_
              refine .consA (.move .none (.s rfl)) rfl ?_
              refine .consA (.move .none (.s rfl)) rfl ?_
              refine .consA (.buildSlice (xs := [_]) .none sl108 ty109 hz109 (.cons (.s rfl) .nil) rfl (by decide)) rfl ?_
              obtain ⟨hn24, h⟩ := need_some h
              refine .consW (.append (k := 5006) rk108 rfl (.told (.s rfl) rfl) (.s rfl) hn24) rfl rfl ?_
              refine .consW (.passRow rfl (.tmp rfl)) rfl rfl ?_
              refine .consW (.passRow rfl (.tmp rfl)) rfl rfl ?_
              refine .nil ?_
              refine .then ?_
              obtain ⟨overs1, hv25, h⟩ := bnd_some h
              refine .reB (t := 8) rfl (congrArg (rowV 109) hv25) ?_
              obtain ⟨downs1, hv26, h⟩ := bnd_some h
              refine .reB (t := 9) rfl (congrArg (rowV 109) hv26) ?_
              refine .nameRow (t := 8) (g := 5012) rfl rfl rfl (fun s5012 => ?_)
              refine .nameRow (t := 9) (g := 5013) rfl rfl rfl (fun s5013 => ?_)
              refine .seq ?_
              refine .region [([], []), ([5011], [5011])] mixed (by kernel_rfl) ?_
              refine .consA (.move .none (.s rfl)) rfl ?_
              obtain ⟨r2, hv27, h⟩ := bind_some h
              refine .consW (.callO [5011] (slices_Sort_int_ok hv27) (.cons (.s rfl) .nil) (.cons (k := 5011) rfl .nil) rfl (by decide) (by decide) (by intro d h; cases h; decide)) rfl rfl ?_
              refine .nil ?_
              refine .then ?_
              refine .region [([], []), ([], []), ([5011], [5011]), ([], []), ([5004], [76, 5004]), ([76], [7, 76])] mixed (by kernel_rfl) ?_
              refine .consA (.move .none (.s rfl)) rfl ?_
              refine .consA (.move .none (.s rfl)) rfl ?_
              obtain ⟨r3, hv28, h⟩ := bind_some h
              refine .consW (.callO [5011] ((slices_Compact_int_ok hv28).frzO1) (.cons (.s rfl) .nil) (.cons (k := 5011) rfl .nil) rfl (by decide) (by decide) (by intro d h; cases h; decide)) rfl rfl ?_
              refine .consA (.buildSlice (xs := [_]) .none sl86 ty90 hz90 (.cons (.s rfl) .nil) rfl (by decide)) rfl ?_
              obtain ⟨hn29, h⟩ := need_some h
              refine .consW (.append (k := 5004) rk86 rfl (.told (.s rfl) rfl) (.s rfl) hn29) rfl rfl ?_
              refine .consW (.passRow rfl (.tmp rfl)) rfl rfl ?_
              refine .nil ?_
              refine .blkNormal ?_
              refine .anon (t := 8) (g := 5012) rfl rfl trivial rfl ?_
              refine .anon (t := 9) (g := 5013) rfl rfl trivial rfl ?_
              exact Ends.join _ (some_eq h) (.cons (t := 31) rfl (.cons (t := 32) rfl (.cons (t := 33) rfl Sub.nil))) (.cons (t := 7) rfl (.cons (t := 8) rfl (.cons (t := 9) rfl SubB.nil)))
          · subst hj12; have h := hK12; clear hK12
            refine .nameRow (t := 7) (g := 5014) rfl rfl rfl (fun s5014 => ?_)
            refine .nameRow (t := 8) (g := 5015) rfl rfl rfl (fun s5015 => ?_)
            refine .nameRow (t := 9) (g := 5016) rfl rfl rfl (fun s5016 => ?_)
            refine .region [] mixed (by kernel_rfl) ?_
            refine .cons (.addW .none (.s rfl) (.int (by decide))) rfl ?_
            refine .cons (.move .none (.s rfl)) rfl ?_
            refine .nil ?_
            refine .anon (t := 7) (g := 5014) rfl rfl trivial rfl ?_
            refine .anon (t := 8) (g := 5015) rfl rfl trivial rfl ?_
            refine .anon (t := 9) (g := 5016) rfl rfl trivial rfl ?_
            exact Ends.againL (some_eq h) (.cons (t := 33) rfl (.cons (t := 31) rfl (.cons (t := 32) rfl Sub.nil))) (.cons (t := 7) rfl (.cons (t := 8) rfl (.cons (t := 9) rfl SubB.nil)))
        · replace h := bif_f h hb11
          refine .exit ?_
          refine .thenExit ?_
          refine .thenExit ?_
          refine .blkExit ?_
          refine .anon (t := 7) (g := 5004) rfl rfl trivial rfl ?_
          refine .anon (t := 8) (g := 5005) rfl rfl trivial rfl ?_
          refine .anon (t := 9) (g := 5006) rfl rfl trivial rfl ?_
          replace h := hD10 _ (some_eq h)
          exact Ends.join _ (some_eq h) Sub.nil (.cons (t := 7) rfl (.cons (t := 8) rfl (.cons (t := 9) rfl SubB.nil)))
      · subst hj9; have h := hK9; clear hK9
        refine .freezeRowA (t := 7) rfl rfl SubB.nil rfl ?_
        refine .seq ?_
        refine .region [] mixed (by kernel_rfl) ?_
        refine .cons (.move .none (.s rfl)) rfl ?_
        refine .cons (.assign .none (.s rfl)) rfl ?_
        refine .cons (.assign .none (.int (by decide))) rfl ?_
        refine .nil ?_
        refine .then ?_
        refine .ret ?_
        obtain rfl := some_eq h
        exact Ends.ret2 (.inl rfl) Try.results74 (ResOK.tmp rfl trivial Imp.refl) (ResOK.tmp rfl trivial Imp.refl)

theorem ref_When_ok {is1 : Bool} {e1 : Int} {r : Int}  (h : ref_When is1 e1 = some r) : FSpec Try.prog 25 [rep is1, rep e1] (rep r) := by
  unfold ref_When at h
  refine FSpec.intro (n := 7) fnok25 Try.func25 rfl Try.ntmps25 rfl (fun F => ?_)
  refine .seq ?_
  refine .region [] mixed (by kernel_rfl) ?_
  refine .cons (.assign .none (.int (by decide))) rfl ?_
  refine .nil ?_
  refine .then ?_
  refine .seq ?_
  refine .seq ?_
  refine .region [] mixed (by kernel_rfl) ?_
  refine .cons (.move .none (.s rfl)) rfl ?_
  refine .nil ?_
  refine .then ?_
  refine .cond (t := 5) rfl trivial (fun hb1 => ?_) (fun hb1 => ?_)
  · replace h := bif_t h hb1
    refine .seq ?_
    refine .region [] mixed (by kernel_rfl) ?_
    refine .cons (.move .none (.s rfl)) rfl ?_
    refine .cons (.assign .none (.s rfl)) rfl ?_
    refine .nil ?_
    refine .then ?_
    refine .ret ?_
    refine .thenRet ?_
    obtain rfl := some_eq h
    exact Ends.ret1 (.inl rfl) Try.results25 (ResOK.tmp rfl trivial Imp.refl)
  · replace h := bif_f h hb1
    refine .skip ?_
    refine .then ?_
    refine .seq ?_
    refine .region [] mixed (by kernel_rfl) ?_
    refine .cons (.assign .none (.int (by decide))) rfl ?_
    refine .nil ?_
    refine .then ?_
    refine .ret ?_
    obtain rfl := some_eq h
    exact Ends.ret1 (.inl rfl) Try.results25 (ResOK.tmp rfl trivial Imp.refl)

theorem ref_In_ok {n1 : Int} {low1 : Int} {high1 : Int} {r : Bool}  (h : ref_In n1 low1 high1 = some r) : FSpec Try.prog 26 [rep n1, rep low1, rep high1] (rep r) := by
  unfold ref_In at h
  refine FSpec.intro (n := 15) fnok26 Try.func26 rfl Try.ntmps26 rfl (fun F => ?_)
  refine .seq ?_
  refine .region [] mixed (by kernel_rfl) ?_
  refine .cons (.assign .none .bool) rfl ?_
  refine .nil ?_
  refine .then ?_
  refine .seq ?_
  refine .region [] mixed (by kernel_rfl) ?_
  refine .cons (.move .none (.s rfl)) rfl ?_
  refine .cons (.move .none (.s rfl)) rfl ?_
  refine .cons (.ge .none (.s rfl) (.s rfl)) rfl ?_
  refine .cons (.move .none (.s rfl)) rfl ?_
  refine .cons (.move (.at rfl rfl) (.s rfl)) rfl ?_
  refine .cons (.move (.at rfl rfl) (.s rfl)) rfl ?_
  refine .cons (.le (.at rfl rfl) (.tmp rfl id) (.tmp rfl id)) rfl ?_
  refine .cons (.pickAnd .none (.s rfl) (.tmp rfl id)) rfl ?_
  refine .cons (.assign .none (.s rfl)) rfl ?_
  refine .nil ?_
  refine .then ?_
  refine .ret ?_
  obtain rfl := some_eq h
  exact Ends.ret1 (.inl rfl) Try.results26 (ResOK.tmp rfl trivial Imp.refl)

theorem ref_PointError_ok {p1 : Point} {r : Int}  (h : ref_PointError p1 = some r) : FSpec Try.prog 10 [rep p1] (rep r) := by
  unfold ref_PointError at h
  refine FSpec.intro (n := 14) fnok10 Try.func10 rfl Try.ntmps10 rfl (fun F => ?_)
  refine .seq ?_
  refine .region [] mixed (by kernel_rfl) ?_
  refine .cons (.box .none (.s rfl)) rfl ?_
  refine .cons (.assign .none (.int (by decide))) rfl ?_
  refine .nil ?_
  refine .then ?_
  refine .seq ?_
  refine .region [] mixed (by kernel_rfl) ?_
  refine .cons (.fieldAddr .none fd23_0 hfd23_0 (.s rfl)) rfl ?_
  refine .cons (.load .none ty3 (.s rfl)) rfl ?_
  obtain ⟨r1, hv1, h⟩ := bind_some h
  refine .cons (.call .none (ref_In_ok hv1) (.cons (.s rfl) (.cons (.int (by decide)) (.cons (.int (by decide)) .nil)))) rfl ?_
  refine .cons (.not .none (.s rfl)) rfl ?_
  refine .cons (.move .none (.s rfl)) rfl ?_
  refine .cons (.fieldAddr (.at rfl rfl) fd23_1 hfd23_1 (.s rfl)) rfl ?_
  refine .cons (.load (.at rfl rfl) ty3 (.tmp rfl id)) rfl ?_
  obtain ⟨r2, hv2, h⟩ := bind_some h
  refine .cons (.callIf (.at rfl rfl) fnok26 (fun hg => ref_In_ok ((fun hg => gd_some hv2 ((notT hg.2))) hg)) (.cons (.tmp rfl id) (.cons (.int (by decide)) (.cons (.int (by decide)) .nil))) (fun h => h)) rfl ?_
  refine .cons (.not (.at rfl rfl) (.tmp rfl id)) rfl ?_
  refine .cons (.pickOr .none (.s rfl) (.tmp rfl id)) rfl ?_
  obtain ⟨r3, hv3, h⟩ := bind_some h
  refine .cons (.call .none (ref_When_ok hv3) (.cons (.s rfl) (.cons (.int (by decide)) .nil))) rfl ?_
  refine .cons (.assign .none (.s rfl)) rfl ?_
  refine .nil ?_
  refine .then ?_
  refine .ret ?_
  obtain rfl := some_eq h
  exact Ends.ret1 (.inl rfl) Try.results10 (ResOK.tmp rfl trivial Imp.refl)

theorem ref_PointsError_ok {l1 : (List Point)} {r : Int}  (h : ref_PointsError l1 = some r) : FSpec Try.prog 48 [rep l1] (rep r) := by
  unfold ref_PointsError at h
  refine FSpec.intro (n := 21) fnok48 Try.func48 rfl Try.ntmps48 rfl (fun F => ?_)
  refine .seq ?_
  refine .region [] mixed (by kernel_rfl) ?_
  refine .cons (.assign .none (.int (by decide))) rfl ?_
  refine .nil ?_
  refine .then ?_
  refine .seq ?_
  refine .seq ?_
  refine .region [] mixed (by kernel_rfl) ?_
  refine .cons (.move .none (.s rfl)) rfl ?_
  refine .cons (.len .none sl66 (.s rfl)) rfl ?_
  refine .cons (.gt .none (.s rfl) (.int (by decide))) rfl ?_
  refine .nil ?_
  refine .then ?_
  refine .cond (t := 8) rfl trivial (fun hb1 => ?_) (fun hb1 => ?_)
  · replace h := bif_t h hb1
    refine .seq ?_
    refine .region [] mixed (by kernel_rfl) ?_
    refine .cons (.assign .none (.int (by decide))) rfl ?_
    refine .nil ?_
    refine .then ?_
    refine .ret ?_
    refine .thenRet ?_
    obtain rfl := some_eq h
    exact Ends.ret1 (.inl rfl) Try.results48 (ResOK.tmp rfl trivial Imp.refl)
  · replace h := bif_f h hb1
    refine .skip ?_
    refine .then ?_
    refine .seq ?_
    refine .seq ?_
    refine .region [] mixed (by kernel_rfl) ?_
    refine .cons (.move .none (.s rfl)) rfl ?_
    refine .cons (.len .none sl66 (.s rfl)) rfl ?_
    refine .cons (.move .none (.int (by decide))) rfl ?_
    refine .nil ?_
    refine .then ?_
    obtain ⟨o_2, h, hK2⟩ := bindR_some h
    refine .thenJ (ι := Unit) (fun j_2 => []) (fun j_2 => []) (fun s => o_2 = Res.nx s) Sub.nil SubB.nil ?_ (fun j_2 hj2 => ?_)
    · skip
      refine .block ?_
      refine .rforEL h (fun p3_ => [(11, ⟨True, rep p3_.1⟩)]) (fun p3_ => []) (.cons (t := 11) rfl Sub.nil) SubB.nil (.cons (t := 9) rfl (.cons (t := 10) rfl Sub.nil)) SubB.nil (fun p3_ o_3 h hD3 => ?_)
      refine .seq ?_
      refine .region [] mixed (by kernel_rfl) ?_
      refine .cons (.lt .none (.s rfl) (.s rfl)) rfl ?_
      refine .nil ?_
      refine .then ?_
      refine .seq ?_
      refine .cond (t := 12) rfl trivial (fun hb4 => ?_) (fun hb4 => ?_)
      · replace h := bif_t h hb4
        refine .skip ?_
        refine .then ?_
        refine .seq ?_
        obtain ⟨o_5, h, hK5⟩ := bindD_some h
        unfold ref_PointsError_L1 at h
        refine .thenJ (ι := Unit) (fun j_5 => []) (fun j_5 => []) (fun s => o_5 = Res.nx s) (.cons (t := 9) rfl (.cons (t := 10) rfl (.cons (t := 11) rfl Sub.nil))) SubB.nil ?_ (fun j_5 hj5 => ?_)
        · skip
          refine .block ?_
          refine .seq ?_
          refine .region [([], []), ([], []), ([], [4]), ([4], [4])] mixed (by kernel_rfl) ?_
          obtain ⟨hn6, h⟩ := need_some h
          refine .consA (.indexAddr .none sl66 ty23 (.s rfl) (.s rfl) (fun _ => hn6)) rfl ?_
          obtain ⟨v1, hv7, h⟩ := bnd_some h
          refine .consA (.re hv7 (.load .none ty23 (.s rfl))) rfl ?_
          refine .consW (.alloc zo23 rfl) rfl rfl ?_
          refine .consN (.store ty23 rfl rfl (.s rfl)) rfl ?_
          refine .nil ?_
          refine .then ?_
          refine .freeze (t := 4) rfl rfl SubB.nil rfl ?_
          refine .seq ?_
          refine .region [] mixed (by kernel_rfl) ?_
          refine .cons (.load .none ty23 (.s rfl)) rfl ?_
          obtain ⟨e1, hv8, h⟩ := bind_some h
          refine .cons (.call .none (ref_PointError_ok hv8) (.cons (.s rfl) .nil)) rfl ?_
          refine .cons (.assign .none (.s rfl)) rfl ?_
          refine .nil ?_
          refine .then ?_
          refine .seq ?_
          refine .region [] mixed (by kernel_rfl) ?_
          refine .cons (.move .none (.s rfl)) rfl ?_
          refine .cons (.neI .none (.s rfl) (.int (by decide))) rfl ?_
          refine .nil ?_
          refine .then ?_
          refine .cond (t := 18) rfl trivial (fun hb9 => ?_) (fun hb9 => ?_)
          · replace h := bif_t h hb9
            refine .seq ?_
            refine .region [] mixed (by kernel_rfl) ?_
            refine .cons (.move .none (.s rfl)) rfl ?_
            refine .cons (.assign .none (.s rfl)) rfl ?_
            refine .nil ?_
            refine .then ?_
            refine .ret ?_
            refine .blkRet ?_
            refine .thenRet ?_
            refine .thenRet ?_
            refine .blkRet ?_
            refine .thenRet ?_
            replace h := resd_ab hK5 (some_eq h)
            replace h := hD3 _ (some_eq h)
            replace h := resb_ab hK2 (some_eq h)
            obtain rfl := some_eq h
            exact Ends.ret1 (.inl rfl) Try.results48 (ResOK.tmp rfl trivial Imp.refl)
          · replace h := bif_f h hb9
            refine .skip ?_
            refine .blkNormal ?_
            exact Ends.join _ (some_eq h) (.cons (t := 9) rfl (.cons (t := 10) rfl (.cons (t := 11) rfl Sub.nil))) SubB.nil
        · have h := resd_nx hK5 hj5
          refine .region [] mixed (by kernel_rfl) ?_
          refine .cons (.addW .none (.s rfl) (.int (by decide))) rfl ?_
          refine .cons (.move .none (.s rfl)) rfl ?_
          refine .nil ?_
          exact Ends.againL (some_eq h) (.cons (t := 11) rfl (.cons (t := 9) rfl (.cons (t := 10) rfl Sub.nil))) SubB.nil
      · replace h := bif_f h hb4
        refine .exit ?_
        refine .thenExit ?_
        refine .thenExit ?_
        refine .blkExit ?_
        replace h := hD3 _ (some_eq h)
        exact Ends.join _ (some_eq h) Sub.nil SubB.nil
    · have h := resb_nx hK2 hj2
      refine .seq ?_
      refine .region [] mixed (by kernel_rfl) ?_
      refine .cons (.assign .none (.int (by decide))) rfl ?_
      refine .nil ?_
      refine .then ?_
      refine .ret ?_
      obtain rfl := some_eq h
      exact Ends.ret1 (.inl rfl) Try.results48 (ResOK.tmp rfl trivial Imp.refl)

theorem ref_IsRight_ok {l1 : (List Point)} {r : Bool}  (h : ref_IsRight l1 = some r) : FSpec Try.prog 90 [rep l1] (rep r) := by
  unfold ref_IsRight at h
  refine FSpec.intro (n := 38) fnok90 Try.func90 rfl Try.ntmps90 rfl (fun F => ?_)
  refine .seq ?_
  refine .region [] mixed (by kernel_rfl) ?_
  refine .cons (.assign .none .bool) rfl ?_
  refine .nil ?_
  refine .then ?_
  refine .seq ?_
  refine .seq ?_
  refine .region [] mixed (by kernel_rfl) ?_
  refine .cons (.assign .none (.int (by decide))) rfl ?_
  refine .nil ?_
  refine .then ?_
  obtain ⟨o_1, h, hK1⟩ := bindR_some h
  refine .thenJ (ι := Unit) (fun j_1 => []) (fun j_1 => []) (fun s => o_1 = Res.nx s) (.cons (t := 0) rfl Sub.nil) SubB.nil ?_ (fun j_1 hj1 => ?_)
  · skip
    refine .block ?_
    refine .loopL h (fun s2_ => [(3, ⟨True, rep s2_⟩)]) (fun s2_ => []) (.cons (t := 3) rfl Sub.nil) SubB.nil (.cons (t := 0) rfl Sub.nil) SubB.nil (fun s2_ o_2 h hD2 => ?_)
    unfold ref_IsRight_L1 at h
    refine .seq ?_
    refine .seq ?_
    refine .region [] mixed (by kernel_rfl) ?_
    refine .cons (.move .none (.s rfl)) rfl ?_
    refine .cons (.move .none (.s rfl)) rfl ?_
    refine .cons (.len .none sl66 (.s rfl)) rfl ?_
    refine .cons (.lt .none (.s rfl) (.s rfl)) rfl ?_
    refine .nil ?_
    refine .then ?_
    refine .cond (t := 7) rfl trivial (fun hb3 => ?_) (fun hb3 => ?_)
    · replace h := bif_t h hb3
      refine .skip ?_
      refine .then ?_
      refine .seq ?_
      refine .block ?_
      refine .seq ?_
      refine .region [] mixed (by kernel_rfl) ?_
      refine .cons (.move .none (.s rfl)) rfl ?_
      refine .cons (.move .none (.s rfl)) rfl ?_
      obtain ⟨hn4, h⟩ := need_some h
      refine .cons (.indexAddr .none sl66 ty23 (.s rfl) (.s rfl) (fun _ => hn4)) rfl ?_
      refine .cons (.fieldAddr .none fd23_0 hfd23_0 (.s rfl)) rfl ?_
      refine .cons (.load .none ty3 (.s rfl)) rfl ?_
      refine .cons (.move .none (.s rfl)) rfl ?_
      refine .cons (.move .none (.s rfl)) rfl ?_
      refine .cons (.subW .none (.s rfl) (.int (by decide))) rfl ?_
      obtain ⟨hn5, h⟩ := need_some h
      refine .cons (.indexAddr .none sl66 ty23 (.s rfl) (.s rfl) (fun _ => hn5)) rfl ?_
      refine .cons (.fieldAddr .none fd23_0 hfd23_0 (.s rfl)) rfl ?_
      refine .cons (.load .none ty3 (.s rfl)) rfl ?_
      refine .cons (.eqI .none (.s rfl) (.s rfl)) rfl ?_
      refine .cons (.move .none (.s rfl)) rfl ?_
      refine .cons (.move .none (.s rfl)) rfl ?_
      obtain ⟨hn6, h⟩ := need_some h
      refine .cons (.indexAddr .none sl66 ty23 (.s rfl) (.s rfl) (fun _ => hn6)) rfl ?_
      refine .cons (.fieldAddr .none fd23_1 hfd23_1 (.s rfl)) rfl ?_
      refine .cons (.load .none ty3 (.s rfl)) rfl ?_
      refine .cons (.move .none (.s rfl)) rfl ?_
      refine .cons (.move .none (.s rfl)) rfl ?_
      refine .cons (.subW .none (.s rfl) (.int (by decide))) rfl ?_
      obtain ⟨hn7, h⟩ := need_some h
      refine .cons (.indexAddr .none sl66 ty23 (.s rfl) (.s rfl) (fun _ => hn7)) rfl ?_
      refine .cons (.fieldAddr .none fd23_1 hfd23_1 (.s rfl)) rfl ?_
      refine .cons (.load .none ty3 (.s rfl)) rfl ?_
      refine .cons (.eqI .none (.s rfl) (.s rfl)) rfl ?_
      refine .cons (.eqS .none (eqAt_bool Try.underlying4) (.s rfl) (.s rfl)) rfl ?_
      refine .nil ?_
      refine .then ?_
      refine .cond (t := 34) rfl trivial (fun hb8 => ?_) (fun hb8 => ?_)
      · replace h := bif_t h hb8
        refine .seq ?_
        refine .region [] mixed (by kernel_rfl) ?_
        refine .cons (.assign .none .bool) rfl ?_
        refine .nil ?_
        refine .then ?_
        refine .ret ?_
        refine .blkRet ?_
        refine .thenRet ?_
        refine .thenRet ?_
        refine .blkRet ?_
        refine .thenRet ?_
        replace h := hD2 _ (some_eq h)
        replace h := resb_ab hK1 (some_eq h)
        obtain rfl := some_eq h
        exact Ends.ret1 (.inl rfl) Try.results90 (ResOK.tmp rfl trivial Imp.refl)
      · replace h := bif_f h hb8
        refine .skip ?_
        refine .blkNormal ?_
        refine .then ?_
        refine .region [] mixed (by kernel_rfl) ?_
        refine .cons (.move .none (.s rfl)) rfl ?_
        refine .cons (.addW .none (.s rfl) (.int (by decide))) rfl ?_
        obtain ⟨i1, hv9, h⟩ := bnd_some h
        refine .cons (.re hv9 (.assign .none (.s rfl))) rfl ?_
        refine .nil ?_
        exact Ends.againL (some_eq h) (.cons (t := 3) rfl (.cons (t := 0) rfl Sub.nil)) SubB.nil
    · replace h := bif_f h hb3
      refine .exit ?_
      refine .thenExit ?_
      refine .thenExit ?_
      refine .blkExit ?_
      replace h := hD2 _ (some_eq h)
      exact Ends.join _ (some_eq h) (.cons (t := 0) rfl Sub.nil) SubB.nil
  · have h := resb_nx hK1 hj1
    refine .seq ?_
    refine .region [] mixed (by kernel_rfl) ?_
    refine .cons (.move .none (.s rfl)) rfl ?_
    refine .cons (.len .none sl66 (.s rfl)) rfl ?_
    refine .cons (.gt .none (.s rfl) (.int (by decide))) rfl ?_
    refine .cons (.assign .none (.s rfl)) rfl ?_
    refine .nil ?_
    refine .then ?_
    refine .ret ?_
    obtain rfl := some_eq h
    exact Ends.ret1 (.inl rfl) Try.results90 (ResOK.tmp rfl trivial Imp.refl)

theorem ref_First_ok {l1 : (List Int)} {r : Int}  (h : ref_First l1 = some r) : FSpec Try.prog 9 [rep l1] (rep r) := by
  unfold ref_First at h
  refine FSpec.intro (n := 15) fnok9 Try.func9 rfl Try.ntmps9 rfl (fun F => ?_)
  refine .seq ?_
  refine .region [] mixed (by kernel_rfl) ?_
  refine .cons (.assign .none (.int (by decide))) rfl ?_
  refine .nil ?_
  refine .then ?_
  refine .seq ?_
  refine .seq ?_
  refine .region [] mixed (by kernel_rfl) ?_
  refine .cons (.move .none (.s rfl)) rfl ?_
  refine .cons (.len .none sl94 (.s rfl)) rfl ?_
  refine .cons (.move .none (.int (by decide))) rfl ?_
  refine .nil ?_
  refine .then ?_
  obtain ⟨o_1, h, hK1⟩ := bindR_some h
  refine .thenJ (ι := Unit) (fun j_1 => []) (fun j_1 => []) (fun s => o_1 = Res.nx s) Sub.nil SubB.nil ?_ (fun j_1 hj1 => ?_)
  · skip
    refine .block ?_
    refine .rforEL h (fun p2_ => [(7, ⟨True, rep p2_.1⟩)]) (fun p2_ => []) (.cons (t := 7) rfl Sub.nil) SubB.nil (.cons (t := 5) rfl (.cons (t := 6) rfl Sub.nil)) SubB.nil (fun p2_ o_2 h hD2 => ?_)
    refine .seq ?_
    refine .region [] mixed (by kernel_rfl) ?_
    refine .cons (.lt .none (.s rfl) (.s rfl)) rfl ?_
    refine .nil ?_
    refine .then ?_
    refine .seq ?_
    refine .cond (t := 8) rfl trivial (fun hb3 => ?_) (fun hb3 => ?_)
    · replace h := bif_t h hb3
      refine .skip ?_
      refine .then ?_
      refine .seq ?_
      obtain ⟨o_4, h, hK4⟩ := bindD_some h
      unfold ref_First_L1 at h
      refine .thenJ (ι := Unit) (fun j_4 => []) (fun j_4 => []) (fun s => o_4 = Res.nx s) (.cons (t := 5) rfl (.cons (t := 6) rfl (.cons (t := 7) rfl Sub.nil))) SubB.nil ?_ (fun j_4 hj4 => ?_)
      · skip
        refine .block ?_
        refine .seq ?_
        refine .region [] mixed (by kernel_rfl) ?_
        obtain ⟨hn5, h⟩ := need_some h
        refine .cons (.indexAddr .none sl94 ty24 (.s rfl) (.s rfl) (fun _ => hn5)) rfl ?_
        refine .cons (.load .none ty24 (.s rfl)) rfl ?_
        obtain ⟨e1, hv6, h⟩ := bnd_some h
        refine .cons (.re hv6 (.assign .none (.s rfl))) rfl ?_
        refine .nil ?_
        refine .then ?_
        refine .seq ?_
        refine .region [] mixed (by kernel_rfl) ?_
        refine .cons (.move .none (.s rfl)) rfl ?_
        refine .cons (.neI .none (.s rfl) (.int (by decide))) rfl ?_
        refine .nil ?_
        refine .then ?_
        refine .cond (t := 12) rfl trivial (fun hb7 => ?_) (fun hb7 => ?_)
        · replace h := bif_t h hb7
          refine .seq ?_
          refine .region [] mixed (by kernel_rfl) ?_
          refine .cons (.move .none (.s rfl)) rfl ?_
          refine .cons (.assign .none (.s rfl)) rfl ?_
          refine .nil ?_
          refine .then ?_
          refine .ret ?_
          refine .blkRet ?_
          refine .thenRet ?_
          refine .thenRet ?_
          refine .blkRet ?_
          refine .thenRet ?_
          replace h := resd_ab hK4 (some_eq h)
          replace h := hD2 _ (some_eq h)
          replace h := resb_ab hK1 (some_eq h)
          obtain rfl := some_eq h
          exact Ends.ret1 (.inl rfl) Try.results9 (ResOK.tmp rfl trivial Imp.refl)
        · replace h := bif_f h hb7
          refine .skip ?_
          refine .blkNormal ?_
          exact Ends.join _ (some_eq h) (.cons (t := 5) rfl (.cons (t := 6) rfl (.cons (t := 7) rfl Sub.nil))) SubB.nil
      · have h := resd_nx hK4 hj4
        refine .region [] mixed (by kernel_rfl) ?_
        refine .cons (.addW .none (.s rfl) (.int (by decide))) rfl ?_
        refine .cons (.move .none (.s rfl)) rfl ?_
        refine .nil ?_
        exact Ends.againL (some_eq h) (.cons (t := 7) rfl (.cons (t := 5) rfl (.cons (t := 6) rfl Sub.nil))) SubB.nil
    · replace h := bif_f h hb3
      refine .exit ?_
      refine .thenExit ?_
      refine .thenExit ?_
      refine .blkExit ?_
      replace h := hD2 _ (some_eq h)
      exact Ends.join _ (some_eq h) Sub.nil SubB.nil
  · have h := resb_nx hK1 hj1
    refine .seq ?_
    refine .region [] mixed (by kernel_rfl) ?_
    refine .cons (.assign .none (.int (by decide))) rfl ?_
    refine .nil ?_
    refine .then ?_
    refine .ret ?_
    obtain rfl := some_eq h
    exact Ends.ret1 (.inl rfl) Try.results9 (ResOK.tmp rfl trivial Imp.refl)

theorem ref_PathError_ok {l1 : (List Point)} {r : Int}  (h : ref_PathError l1 = some r) : FSpec Try.prog 43 [rep l1] (rep r) := by
  unfold ref_PathError at h
  refine FSpec.intro (n := 11) fnok43 Try.func43 rfl Try.ntmps43 rfl (fun F => ?_)
  refine .seq ?_
  refine .region [] mixed (by kernel_rfl) ?_
  refine .cons (.assign .none (.int (by decide))) rfl ?_
  refine .nil ?_
  refine .then ?_
  refine .seq ?_
  refine .region [] mixed (by kernel_rfl) ?_
  refine .cons (.move .none (.s rfl)) rfl ?_
  obtain ⟨r1, hv1, h⟩ := bind_some h
  refine .cons (.call .none (ref_PointsError_ok hv1) (.cons (.s rfl) .nil)) rfl ?_
  refine .cons (.move .none (.s rfl)) rfl ?_
  obtain ⟨r2, hv2, h⟩ := bind_some h
  refine .cons (.call .none (ref_IsRight_ok hv2) (.cons (.s rfl) .nil)) rfl ?_
  refine .cons (.not .none (.s rfl)) rfl ?_
  obtain ⟨r3, hv3, h⟩ := bind_some h
  refine .cons (.call .none (ref_When_ok hv3) (.cons (.s rfl) (.cons (.int (by decide)) .nil))) rfl ?_
  refine .cons (.buildSlice (xs := [_, _]) .none sl94 ty24 hz24 (.cons (.s rfl) (.cons (.s rfl) .nil)) rfl (by decide)) rfl ?_
  obtain ⟨r4, hv4, h⟩ := bind_some h
  refine .cons (.call .none (ref_First_ok hv4) (.cons (.s rfl) .nil)) rfl ?_
  refine .cons (.assign .none (.s rfl)) rfl ?_
  refine .nil ?_
  refine .then ?_
  refine .ret ?_
  obtain rfl := some_eq h
  exact Ends.ret1 (.inl rfl) Try.results43 (ResOK.tmp rfl trivial Imp.refl)

theorem geom_sign_ok {n1 : Int} {r : Int}  (h : geom_sign n1 = some r) : FSpec Try.prog 83 [rep n1] (rep r) := by
  unfold geom_sign at h
  refine FSpec.intro (n := 9) fnok83 Try.func83 rfl Try.ntmps83 rfl (fun F => ?_)
  refine .seq ?_
  refine .region [] mixed (by kernel_rfl) ?_
  refine .cons (.assign .none (.int (by decide))) rfl ?_
  refine .nil ?_
  refine .then ?_
  refine .seq ?_
  refine .block ?_
  refine .seq ?_
  refine .region [] mixed (by kernel_rfl) ?_
  refine .cons (.move .none (.s rfl)) rfl ?_
  refine .cons (.gt .none (.s rfl) (.int (by decide))) rfl ?_
  refine .cons (.assign .none (.s rfl)) rfl ?_
  refine .nil ?_
  refine .then ?_
  refine .cond (t := 3) rfl trivial (fun hb1 => ?_) (fun hb1 => ?_)
  · replace h := bif_t h hb1
    refine .seq ?_
    refine .region [] mixed (by kernel_rfl) ?_
    refine .cons (.assign .none (.int (by decide))) rfl ?_
    refine .nil ?_
    refine .then ?_
    refine .ret ?_
    refine .blkRet ?_
    refine .thenRet ?_
    obtain rfl := some_eq h
    exact Ends.ret1 (.inl rfl) Try.results83 (ResOK.tmp rfl trivial Imp.refl)
  · replace h := bif_f h hb1
    refine .seq ?_
    refine .region [] mixed (by kernel_rfl) ?_
    refine .cons (.move .none (.s rfl)) rfl ?_
    refine .cons (.lt .none (.s rfl) (.int (by decide))) rfl ?_
    refine .cons (.assign .none (.s rfl)) rfl ?_
    refine .nil ?_
    refine .then ?_
    refine .cond (t := 6) rfl trivial (fun hb2 => ?_) (fun hb2 => ?_)
    · replace h := bif_t h hb2
      refine .seq ?_
      refine .region [] mixed (by kernel_rfl) ?_
      refine .cons (.assign .none (.int (by decide))) rfl ?_
      refine .nil ?_
      refine .then ?_
      refine .ret ?_
      refine .blkRet ?_
      refine .thenRet ?_
      obtain rfl := some_eq h
      exact Ends.ret1 (.inl rfl) Try.results83 (ResOK.tmp rfl trivial Imp.refl)
    · replace h := bif_f h hb2
      refine .skip ?_
      refine .blkNormal ?_
      refine .then ?_
      refine .seq ?_
      refine .region [] mixed (by kernel_rfl) ?_
      refine .cons (.assign .none (.int (by decide))) rfl ?_
      refine .nil ?_
      refine .then ?_
      refine .ret ?_
      obtain rfl := some_eq h
      exact Ends.ret1 (.inl rfl) Try.results83 (ResOK.tmp rfl trivial Imp.refl)

theorem geom_bend_ok {a1 : Point} {b1 : Point} {c1 : Point} {r : Int}  (h : geom_bend a1 b1 c1 = some r) : FSpec Try.prog 80 [rep a1, rep b1, rep c1] (rep r) := by
  unfold geom_bend at h
  refine FSpec.intro (n := 31) fnok80 Try.func80 rfl Try.ntmps80 rfl (fun F => ?_)
  refine .seq ?_
  refine .region [] mixed (by kernel_rfl) ?_
  refine .cons (.box .none (.s rfl)) rfl ?_
  refine .cons (.box .none (.s rfl)) rfl ?_
  refine .cons (.box .none (.s rfl)) rfl ?_
  refine .cons (.assign .none (.int (by decide))) rfl ?_
  refine .nil ?_
  refine .then ?_
  refine .seq ?_
  refine .region [] mixed (by kernel_rfl) ?_
  refine .cons (.fieldAddr .none fd23_0 hfd23_0 (.s rfl)) rfl ?_
  refine .cons (.load .none ty3 (.s rfl)) rfl ?_
  refine .cons (.fieldAddr .none fd23_0 hfd23_0 (.s rfl)) rfl ?_
  refine .cons (.load .none ty3 (.s rfl)) rfl ?_
  refine .cons (.subW .none (.s rfl) (.s rfl)) rfl ?_
  refine .cons (.fieldAddr .none fd23_1 hfd23_1 (.s rfl)) rfl ?_
  refine .cons (.load .none ty3 (.s rfl)) rfl ?_
  refine .cons (.fieldAddr .none fd23_1 hfd23_1 (.s rfl)) rfl ?_
  refine .cons (.load .none ty3 (.s rfl)) rfl ?_
  refine .cons (.subW .none (.s rfl) (.s rfl)) rfl ?_
  refine .cons (.mulW .none (.s rfl) (.s rfl)) rfl ?_
  refine .cons (.fieldAddr .none fd23_1 hfd23_1 (.s rfl)) rfl ?_
  refine .cons (.load .none ty3 (.s rfl)) rfl ?_
  refine .cons (.fieldAddr .none fd23_1 hfd23_1 (.s rfl)) rfl ?_
  refine .cons (.load .none ty3 (.s rfl)) rfl ?_
  refine .cons (.subW .none (.s rfl) (.s rfl)) rfl ?_
  refine .cons (.fieldAddr .none fd23_0 hfd23_0 (.s rfl)) rfl ?_
  refine .cons (.load .none ty3 (.s rfl)) rfl ?_
  refine .cons (.fieldAddr .none fd23_0 hfd23_0 (.s rfl)) rfl ?_
  refine .cons (.load .none ty3 (.s rfl)) rfl ?_
  refine .cons (.subW .none (.s rfl) (.s rfl)) rfl ?_
  refine .cons (.mulW .none (.s rfl) (.s rfl)) rfl ?_
  refine .cons (.subW .none (.s rfl) (.s rfl)) rfl ?_
  obtain ⟨r1, hv1, h⟩ := bind_some h
  refine .cons (.call .none (geom_sign_ok hv1) (.cons (.s rfl) .nil)) rfl ?_
  refine .cons (.assign .none (.s rfl)) rfl ?_
  refine .nil ?_
  refine .then ?_
  refine .ret ?_
  obtain rfl := some_eq h
  exact Ends.ret1 (.inl rfl) Try.results80 (ResOK.tmp rfl trivial Imp.refl)

theorem geom_Bend_ok {a1 : Point} {b1 : Point} {c1 : Point} {r : (Int × Int)}  (h : geom_Bend a1 b1 c1 = some r) : FSpec Try.prog 11 [rep a1, rep b1, rep c1] (tup [rep r.1, rep r.2]) := by
  unfold geom_Bend at h
  refine FSpec.intro (n := 21) fnok11 Try.func11 rfl Try.ntmps11 rfl (fun F => ?_)
  refine .seq ?_
  refine .region [] mixed (by kernel_rfl) ?_
  refine .cons (.box .none (.s rfl)) rfl ?_
  refine .cons (.box .none (.s rfl)) rfl ?_
  refine .cons (.box .none (.s rfl)) rfl ?_
  refine .cons (.assign .none (.int (by decide))) rfl ?_
  refine .cons (.assign .none (.int (by decide))) rfl ?_
  refine .nil ?_
  refine .then ?_
  refine .seq ?_
  refine .seq ?_
  refine .region [] mixed (by kernel_rfl) ?_
  refine .cons (.load .none ty23 (.s rfl)) rfl ?_
  refine .cons (.load .none ty23 (.s rfl)) rfl ?_
  refine .cons (.load .none ty23 (.s rfl)) rfl ?_
  refine .cons (.buildSlice (xs := [_, _, _]) .none sl66 ty23 hz23 (.cons (.s rfl) (.cons (.s rfl) (.cons (.s rfl) .nil))) rfl (by decide)) rfl ?_
  obtain ⟨e1, hv1, h⟩ := bind_some h
  refine .cons (.call .none (geom_points_ok hv1) (.cons (.s rfl) .nil)) rfl ?_
  refine .cons (.assign .none (.s rfl)) rfl ?_
  refine .nil ?_
  refine .then ?_
  refine .seq ?_
  refine .region [] mixed (by kernel_rfl) ?_
  refine .cons (.move .none (.s rfl)) rfl ?_
  refine .cons (.neI .none (.s rfl) (.int (by decide))) rfl ?_
  refine .nil ?_
  refine .then ?_
  refine .cond (t := 15) rfl trivial (fun hb2 => ?_) (fun hb2 => ?_)
  · replace h := bif_t h hb2
    refine .seq ?_
    refine .region [] mixed (by kernel_rfl) ?_
    refine .cons (.move .none (.s rfl)) rfl ?_
    refine .cons (.assign .none (.int (by decide))) rfl ?_
    refine .cons (.assign .none (.s rfl)) rfl ?_
    refine .nil ?_
    refine .then ?_
    refine .ret ?_
    refine .thenRet ?_
    obtain rfl := some_eq h
    exact Ends.ret2 (.inl rfl) Try.results11 (ResOK.tmp rfl trivial Imp.refl) (ResOK.tmp rfl trivial Imp.refl)
  · replace h := bif_f h hb2
    refine .skip ?_
    refine .then ?_
    refine .seq ?_
    refine .region [] mixed (by kernel_rfl) ?_
    refine .cons (.load .none ty23 (.s rfl)) rfl ?_
    refine .cons (.load .none ty23 (.s rfl)) rfl ?_
    refine .cons (.load .none ty23 (.s rfl)) rfl ?_
    obtain ⟨r1, hv3, h⟩ := bind_some h
    refine .cons (.call .none (geom_bend_ok hv3) (.cons (.s rfl) (.cons (.s rfl) (.cons (.s rfl) .nil)))) rfl ?_
    refine .cons (.assign .none (.s rfl)) rfl ?_
    refine .cons (.assign .none (.int (by decide))) rfl ?_
    refine .nil ?_
    refine .then ?_
    refine .ret ?_
    obtain rfl := some_eq h
    exact Ends.ret2 (.inl rfl) Try.results11 (ResOK.tmp rfl trivial Imp.refl) (ResOK.tmp rfl trivial Imp.refl)

theorem law_geoms_ok  {r : Bool}  (h : law_geoms  = some r) : FSpec Try.prog 13 [] (rep r) := by
  unfold law_geoms at h
  refine FSpec.intro (n := 16) fnok13 Try.func13 rfl Try.ntmps13 rfl (fun F => ?_)
  refine .seq ?_
  refine .region [] mixed (by kernel_rfl) ?_
  refine .cons (.assign .none .bool) rfl ?_
  refine .nil ?_
  refine .then ?_
  refine .seq ?_
  refine .region [] mixed (by kernel_rfl) ?_
  refine .cons (.buildF (y := (⟨(0 : Int), (0 : Int)⟩ : Point)) .none bu23 zc23 rfl .nil .nil) rfl ?_
  refine .cons (.buildF (y := (⟨1, (0 : Int)⟩ : Point)) .none bu23 zc23 rfl (.cons (.int (by decide)) .nil) (.cons rfl sf23_0 .nil)) rfl ?_
  refine .cons (.buildF (y := (⟨1, 1⟩ : Point)) .none bu23 zc23 rfl (.cons (.int (by decide)) (.cons (.int (by decide)) .nil)) (.cons rfl sf23_0 (.cons rfl sf23_1 .nil))) rfl ?_
  obtain ⟨r1, hv1, h⟩ := bind_some h
  refine .cons (.call .none (geom_Bend_ok hv1) (.cons (.s rfl) (.cons (.s rfl) (.cons (.s rfl) .nil)))) rfl ?_
  refine .cons (.move .none (.s rfl)) rfl ?_
  refine .cons (.extract .none (.s rfl) rfl) rfl ?_
  refine .cons (.extract .none (.s rfl) rfl) rfl ?_
  refine .cons (.assign .none (.s rfl)) rfl ?_
  refine .cons (.assign .none (.s rfl)) rfl ?_
  refine .nil ?_
  refine .then ?_
  refine .seq ?_
  refine .region [] mixed (by kernel_rfl) ?_
  refine .cons (.move .none (.s rfl)) rfl ?_
  refine .cons (.eqI .none (.s rfl) (.int (by decide))) rfl ?_
  refine .cons (.move .none (.s rfl)) rfl ?_
  refine .cons (.move (.at rfl rfl) (.s rfl)) rfl ?_
  refine .cons (.eqI (.at rfl rfl) (.tmp rfl id) (.int (by decide))) rfl ?_
  refine .cons (.pickAnd .none (.s rfl) (.tmp rfl id)) rfl ?_
  refine .cons (.assign .none (.s rfl)) rfl ?_
  refine .nil ?_
  refine .then ?_
  refine .ret ?_
  obtain rfl := some_eq h
  exact Ends.ret1 (.inl rfl) Try.results13 (ResOK.tmp rfl trivial Imp.refl)

theorem ref_crossing_ok {a1 : Point} {b1 : Point} {c1 : Point} {d1 : Point} {r : (Point × Bool)}  (h : ref_crossing a1 b1 c1 d1 = some r) : FSpec Try.prog 111 [rep a1, rep b1, rep c1, rep d1] (tup [rep r.1, rep r.2]) := by
  unfold ref_crossing at h
  refine FSpec.intro (n := 86) fnok111 Try.func111 rfl Try.ntmps111 rfl (fun F => ?_)
  refine .seq ?_
  refine .region [([], [4]), ([], [5]), ([], [6]), ([], [7]), ([], [8]), ([], [])] mixed (by kernel_rfl) ?_
  refine .consW (.boxO rfl (.s rfl)) rfl rfl ?_
  refine .consW (.boxO rfl (.s rfl)) rfl rfl ?_
  refine .consW (.boxO rfl (.s rfl)) rfl rfl ?_
  refine .consW (.boxO rfl (.s rfl)) rfl rfl ?_
  refine .consW (.alloc zo23 rfl) rfl rfl ?_
  refine .consA (.assign .none .bool) rfl ?_
  refine .nil ?_
  refine .then ?_
  obtain ⟨v1, hv1, h⟩ := bnd_some h
  refine .reB (t := 8) rfl (congrArg (cont 23) hv1) ?_
  refine .nameBox (t := 4) (g := 5001) rfl rfl (fun m5001 => ?_)
  refine .nameBox (t := 5) (g := 5002) rfl rfl (fun m5002 => ?_)
  refine .nameBox (t := 6) (g := 5003) rfl rfl (fun m5003 => ?_)
  refine .nameBox (t := 7) (g := 5004) rfl rfl (fun m5004 => ?_)
  refine .nameBox (t := 8) (g := 5005) rfl rfl (fun m5005 => ?_)
  refine .seq ?_
  refine .seq ?_
  refine .region [([], []), ([5001], []), ([], []), ([5002], []), ([], []), ([], []), ([], []), ([5003], []), ([], []), ([5004], []), ([], []), ([], [])] mixed (by kernel_rfl) ?_
  refine .consA (.fieldPtr .none fd23_0 (.s rfl)) rfl ?_
  refine .consA (.loadAt (k := 5001) .none ty3 rfl (.s rfl) hfd23_0) rfl ?_
  refine .consA (.fieldPtr .none fd23_0 (.s rfl)) rfl ?_
  refine .consA (.loadAt (k := 5002) .none ty3 rfl (.s rfl) hfd23_0) rfl ?_
  refine .consA (.eqI .none (.s rfl) (.s rfl)) rfl ?_
  refine .consA (.move .none (.s rfl)) rfl ?_
  refine .consA (.fieldPtr (.at rfl rfl) fd23_1 (.s rfl)) rfl ?_
  refine .consA (.loadAt (k := 5003) (.at rfl rfl) ty3 rfl (.tmp rfl id) hfd23_1) rfl ?_
  refine .consA (.fieldPtr (.at rfl rfl) fd23_1 (.s rfl)) rfl ?_
  refine .consA (.loadAt (k := 5004) (.at rfl rfl) ty3 rfl (.tmp rfl id) hfd23_1) rfl ?_
  refine .consA (.eqI (.at rfl rfl) (.tmp rfl id) (.tmp rfl id)) rfl ?_
  refine .consA (.pickAnd .none (.s rfl) (.tmp rfl id)) rfl ?_
  refine .nil ?_
  refine .then ?_
  obtain ⟨j_2, h, hK2⟩ := bind_some h
  refine .thenJ (ι := (Point × Point × Point × Point)) (fun j_2 => []) (fun j_2 => [(5001, some (boxAt m5001 23 j_2.1)), (5002, some (boxAt m5002 23 j_2.2.1)), (5003, some (boxAt m5003 23 j_2.2.2.1)), (5004, some (boxAt m5004 23 j_2.2.2.2))]) (fun s => j_2 = s) (.cons (t := 4) rfl (.cons (t := 5) rfl (.cons (t := 6) rfl (.cons (t := 7) rfl (.cons (t := 8) rfl Sub.nil))))) (.cons (t := 5005) rfl SubB.nil) ?_ (fun j_2' hj2 => ?_)
  · skip
    refine .cond (t := 23) rfl trivial (fun hb3 => ?_) (fun hb3 => ?_)
    · replace h := bif_t h hb3
      refine .region [([5003], []), ([5004], []), ([5001], []), ([5002], []), ([5001], [5001]), ([5002], [5002]), ([5003], [5003]), ([5004], [5004])] mixed (by kernel_rfl) ?_
      refine .consA (.loadAt0 (k := 5003) .none ty23 rfl (.s rfl)) rfl ?_
      refine .consA (.loadAt0 (k := 5004) .none ty23 rfl (.s rfl)) rfl ?_
      refine .consA (.loadAt0 (k := 5001) .none ty23 rfl (.s rfl)) rfl ?_
      refine .consA (.loadAt0 (k := 5002) .none ty23 rfl (.s rfl)) rfl ?_
      refine .consN (.storeAt0 (g := 5001) ty23 rfl (.s rfl) (.s rfl)) rfl ?_
      refine .consN (.storeAt0 (g := 5002) ty23 rfl (.s rfl) (.s rfl)) rfl ?_
      refine .consN (.storeAt0 (g := 5003) ty23 rfl (.s rfl) (.s rfl)) rfl ?_
      refine .consN (.storeAt0 (g := 5004) ty23 rfl (.s rfl) (.s rfl)) rfl ?_
      refine .nil ?_
      exact Ends.join _ (some_eq h) (.cons (t := 4) rfl (.cons (t := 5) rfl (.cons (t := 6) rfl (.cons (t := 7) rfl (.cons (t := 8) rfl Sub.nil))))) (.cons (t := 5001) rfl (.cons (t := 5002) rfl (.cons (t := 5003) rfl (.cons (t := 5004) rfl (.cons (t := 5005) rfl SubB.nil)))))
    · replace h := bif_f h hb3
      refine .skip ?_
      exact Ends.join _ (some_eq h) (.cons (t := 4) rfl (.cons (t := 5) rfl (.cons (t := 6) rfl (.cons (t := 7) rfl (.cons (t := 8) rfl Sub.nil))))) (.cons (t := 5001) rfl (.cons (t := 5002) rfl (.cons (t := 5003) rfl (.cons (t := 5004) rfl (.cons (t := 5005) rfl SubB.nil)))))
  · subst hj2; have h := hK2; clear hK2
    refine .freezeBox (g := 5001) (ts := [4]) rfl (.cons (t := 4) rfl trivial .nil) (.cons (t := 5002) rfl (.cons (t := 5003) rfl (.cons (t := 5004) rfl (.cons (t := 5005) rfl SubB.nil)))) rfl ?_
    refine .freezeBox (g := 5002) (ts := [5]) rfl (.cons (t := 5) rfl trivial .nil) (.cons (t := 5003) rfl (.cons (t := 5004) rfl (.cons (t := 5005) rfl SubB.nil))) rfl ?_
    refine .freezeBox (g := 5003) (ts := [6]) rfl (.cons (t := 6) rfl trivial .nil) (.cons (t := 5004) rfl (.cons (t := 5005) rfl SubB.nil)) rfl ?_
    refine .freezeBox (g := 5004) (ts := [7]) rfl (.cons (t := 7) rfl trivial .nil) (.cons (t := 5005) rfl SubB.nil) rfl ?_
    refine .seq ?_
    refine .seq ?_
    refine .region [] mixed (by kernel_rfl) ?_
    refine .cons (.fieldAddr .none fd23_1 hfd23_1 (.s rfl)) rfl ?_
    refine .cons (.load .none ty3 (.s rfl)) rfl ?_
    refine .cons (.fieldAddr .none fd23_1 hfd23_1 (.s rfl)) rfl ?_
    refine .cons (.load .none ty3 (.s rfl)) rfl ?_
    refine .cons (.neI .none (.s rfl) (.s rfl)) rfl ?_
    refine .cons (.move .none (.s rfl)) rfl ?_
    refine .cons (.fieldAddr (.at rfl rfl) fd23_0 hfd23_0 (.s rfl)) rfl ?_
    refine .cons (.load (.at rfl rfl) ty3 (.tmp rfl id)) rfl ?_
    refine .cons (.fieldAddr (.at rfl rfl) fd23_0 hfd23_0 (.s rfl)) rfl ?_
    refine .cons (.load (.at rfl rfl) ty3 (.tmp rfl id)) rfl ?_
    refine .cons (.neI (.at rfl rfl) (.tmp rfl id) (.tmp rfl id)) rfl ?_
    refine .cons (.pickOr .none (.s rfl) (.tmp rfl id)) rfl ?_
    refine .nil ?_
    refine .then ?_
    refine .cond (t := 39) rfl trivial (fun hb4 => ?_) (fun hb4 => ?_)
    · replace h := bif_t h hb4
      refine .seq ?_
      refine .region [([], []), ([5005], [5005]), ([], [])] mixed (by kernel_rfl) ?_
      obtain ⟨v2, hv5, h⟩ := bnd_some h
      refine .consA (.re hv5 (.buildF (y := (⟨(0 : Int), (0 : Int)⟩ : Point)) .none bu23 zc23 rfl .nil .nil)) rfl ?_
      refine .consN (.storeAt0 (g := 5005) ty23 rfl (.s rfl) (.s rfl)) rfl ?_
      refine .consA (.assign .none .bool) rfl ?_
      refine .nil ?_
      refine .then ?_
      refine .freezeBox (g := 5005) (ts := [8]) rfl (.cons (t := 8) rfl trivial .nil) SubB.nil rfl ?_
      refine .ret ?_
      refine .thenRet ?_
      obtain rfl := some_eq h
      exact Ends.ret2 (.inl rfl) Try.results111 (ResOK.cellR ty23 rfl trivial Imp.refl) (ResOK.tmp rfl trivial Imp.refl)
    · replace h := bif_f h hb4
      refine .skip ?_
      refine .then ?_
      refine .seq ?_
      refine .region [([], []), ([], []), ([], []), ([], []), ([], []), ([], [10]), ([10], [10])] mixed (by kernel_rfl) ?_
      refine .consA (.fieldAddr .none fd23_0 hfd23_0 (.s rfl)) rfl ?_
      refine .consA (.load .none ty3 (.s rfl)) rfl ?_
      refine .consA (.fieldAddr .none fd23_1 hfd23_1 (.s rfl)) rfl ?_
      refine .consA (.load .none ty3 (.s rfl)) rfl ?_
      obtain ⟨v3, hv6, h⟩ := bnd_some h
      refine .consA (.re hv6 (.buildF (y := (⟨j_2.2.2.1.X, j_2.1.Y⟩ : Point)) .none bu23 zc23 rfl (.cons (.s rfl) (.cons (.s rfl) .nil)) (.cons rfl sf23_0 (.cons rfl sf23_1 .nil)))) rfl ?_
      refine .consW (.alloc zo23 rfl) rfl rfl ?_
      refine .consN (.store ty23 rfl rfl (.s rfl)) rfl ?_
      refine .nil ?_
      refine .then ?_
      refine .freeze (t := 10) rfl rfl (.cons (t := 5005) rfl SubB.nil) rfl ?_
      refine .seq ?_
      refine .region [] mixed (by kernel_rfl) ?_
      refine .cons (.fieldAddr .none fd23_0 hfd23_0 (.s rfl)) rfl ?_
      refine .cons (.load .none ty3 (.s rfl)) rfl ?_
      refine .cons (.fieldAddr .none fd23_0 hfd23_0 (.s rfl)) rfl ?_
      refine .cons (.load .none ty3 (.s rfl)) rfl ?_
      refine .cons (.fieldAddr .none fd23_0 hfd23_0 (.s rfl)) rfl ?_
      refine .cons (.load .none ty3 (.s rfl)) rfl ?_
      refine .cons (.min2 .none (.s rfl) (.s rfl)) rfl ?_
      refine .cons (.gt .none (.s rfl) (.s rfl)) rfl ?_
      refine .cons (.move .none (.s rfl)) rfl ?_
      refine .cons (.fieldAddr (.at rfl rfl) fd23_0 hfd23_0 (.s rfl)) rfl ?_
      refine .cons (.load (.at rfl rfl) ty3 (.tmp rfl id)) rfl ?_
      refine .cons (.fieldAddr (.at rfl rfl) fd23_0 hfd23_0 (.s rfl)) rfl ?_
      refine .cons (.load (.at rfl rfl) ty3 (.tmp rfl id)) rfl ?_
      refine .cons (.fieldAddr (.at rfl rfl) fd23_0 hfd23_0 (.s rfl)) rfl ?_
      refine .cons (.load (.at rfl rfl) ty3 (.tmp rfl id)) rfl ?_
      refine .cons (.max2 (.at rfl rfl) (.tmp rfl id) (.tmp rfl id)) rfl ?_
      refine .cons (.lt (.at rfl rfl) (.tmp rfl id) (.tmp rfl id)) rfl ?_
      refine .cons (.pickAnd .none (.s rfl) (.tmp rfl id)) rfl ?_
      refine .cons (.move .none (.s rfl)) rfl ?_
      refine .cons (.fieldAddr (.at rfl rfl) fd23_1 hfd23_1 (.s rfl)) rfl ?_
      refine .cons (.load (.at rfl rfl) ty3 (.tmp rfl id)) rfl ?_
      refine .cons (.fieldAddr (.at rfl rfl) fd23_1 hfd23_1 (.s rfl)) rfl ?_
      refine .cons (.load (.at rfl rfl) ty3 (.tmp rfl id)) rfl ?_
      refine .cons (.fieldAddr (.at rfl rfl) fd23_1 hfd23_1 (.s rfl)) rfl ?_
      refine .cons (.load (.at rfl rfl) ty3 (.tmp rfl id)) rfl ?_
      refine .cons (.min2 (.at rfl rfl) (.tmp rfl id) (.tmp rfl id)) rfl ?_
      refine .cons (.gt (.at rfl rfl) (.tmp rfl id) (.tmp rfl id)) rfl ?_
      refine .cons (.pickAnd .none (.s rfl) (.tmp rfl id)) rfl ?_
      refine .cons (.move .none (.s rfl)) rfl ?_
      refine .cons (.fieldAddr (.at rfl rfl) fd23_1 hfd23_1 (.s rfl)) rfl ?_
      refine .cons (.load (.at rfl rfl) ty3 (.tmp rfl id)) rfl ?_
      refine .cons (.fieldAddr (.at rfl rfl) fd23_1 hfd23_1 (.s rfl)) rfl ?_
      refine .cons (.load (.at rfl rfl) ty3 (.tmp rfl id)) rfl ?_
      refine .cons (.fieldAddr (.at rfl rfl) fd23_1 hfd23_1 (.s rfl)) rfl ?_
      refine .cons (.load (.at rfl rfl) ty3 (.tmp rfl id)) rfl ?_
      refine .cons (.max2 (.at rfl rfl) (.tmp rfl id) (.tmp rfl id)) rfl ?_
      refine .cons (.lt (.at rfl rfl) (.tmp rfl id) (.tmp rfl id)) rfl ?_
      refine .cons (.pickAnd .none (.s rfl) (.tmp rfl id)) rfl ?_
      refine .cons (.assign .none (.s rfl)) rfl ?_
      refine .nil ?_
      refine .then ?_
      refine .seq ?_
      refine .region [([], []), ([], []), ([5005], [5005]), ([], [])] mixed (by kernel_rfl) ?_
      refine .consA (.load .none ty23 (.s rfl)) rfl ?_
      refine .consA (.move .none (.s rfl)) rfl ?_
      refine .consN (.storeAt0 (g := 5005) ty23 rfl (.s rfl) (.s rfl)) rfl ?_
      refine .consA (.assign .none (.s rfl)) rfl ?_
      refine .nil ?_
      refine .then ?_
      refine .freezeBox (g := 5005) (ts := [8]) rfl (.cons (t := 8) rfl trivial .nil) SubB.nil rfl ?_
      refine .ret ?_
      obtain rfl := some_eq h
      exact Ends.ret2 (.inl rfl) Try.results111 (ResOK.cellR ty23 rfl trivial Imp.refl) (ResOK.tmp rfl trivial Imp.refl)

theorem ref_Abs_ok {n1 : Int} {r : Int}  (h : ref_Abs n1 = some r) : FSpec Try.prog 97 [rep n1] (rep r) := by
  unfold ref_Abs at h
  refine FSpec.intro (n := 7) fnok97 Try.func97 rfl Try.ntmps97 rfl (fun F => ?_)
  refine .seq ?_
  refine .region [] mixed (by kernel_rfl) ?_
  refine .cons (.assign .none (.int (by decide))) rfl ?_
  refine .nil ?_
  refine .then ?_
  refine .seq ?_
  refine .region [] mixed (by kernel_rfl) ?_
  refine .cons (.move .none (.s rfl)) rfl ?_
  refine .cons (.move .none (.s rfl)) rfl ?_
  refine .cons (.negW .none (.s rfl)) rfl ?_
  refine .cons (.max2 .none (.s rfl) (.s rfl)) rfl ?_
  refine .cons (.assign .none (.s rfl)) rfl ?_
  refine .nil ?_
  refine .then ?_
  refine .ret ?_
  obtain rfl := some_eq h
  exact Ends.ret1 (.inl rfl) Try.results97 (ResOK.tmp rfl trivial Imp.refl)

theorem ref_Far_ok {a1 : Point} {b1 : Point} {r : Int}  (h : ref_Far a1 b1 = some r) : FSpec Try.prog 92 [rep a1, rep b1] (rep r) := by
  unfold ref_Far at h
  refine FSpec.intro (n := 18) fnok92 Try.func92 rfl Try.ntmps92 rfl (fun F => ?_)
  refine .seq ?_
  refine .region [] mixed (by kernel_rfl) ?_
  refine .cons (.box .none (.s rfl)) rfl ?_
  refine .cons (.box .none (.s rfl)) rfl ?_
  refine .cons (.assign .none (.int (by decide))) rfl ?_
  refine .nil ?_
  refine .then ?_
  refine .seq ?_
  refine .region [] mixed (by kernel_rfl) ?_
  refine .cons (.fieldAddr .none fd23_0 hfd23_0 (.s rfl)) rfl ?_
  refine .cons (.load .none ty3 (.s rfl)) rfl ?_
  refine .cons (.fieldAddr .none fd23_0 hfd23_0 (.s rfl)) rfl ?_
  refine .cons (.load .none ty3 (.s rfl)) rfl ?_
  refine .cons (.subW .none (.s rfl) (.s rfl)) rfl ?_
  obtain ⟨r1, hv1, h⟩ := bind_some h
  refine .cons (.call .none (ref_Abs_ok hv1) (.cons (.s rfl) .nil)) rfl ?_
  refine .cons (.fieldAddr .none fd23_1 hfd23_1 (.s rfl)) rfl ?_
  refine .cons (.load .none ty3 (.s rfl)) rfl ?_
  refine .cons (.fieldAddr .none fd23_1 hfd23_1 (.s rfl)) rfl ?_
  refine .cons (.load .none ty3 (.s rfl)) rfl ?_
  refine .cons (.subW .none (.s rfl) (.s rfl)) rfl ?_
  obtain ⟨r2, hv2, h⟩ := bind_some h
  refine .cons (.call .none (ref_Abs_ok hv2) (.cons (.s rfl) .nil)) rfl ?_
  refine .cons (.addW .none (.s rfl) (.s rfl)) rfl ?_
  refine .cons (.assign .none (.s rfl)) rfl ?_
  refine .nil ?_
  refine .then ?_
  refine .ret ?_
  obtain rfl := some_eq h
  exact Ends.ret1 (.inl rfl) Try.results92 (ResOK.tmp rfl trivial Imp.refl)

theorem ref_JumpsOf_ok {l1 : (List (List Point))} {r : (List (List Int))}  (h : ref_JumpsOf l1 = some r) : FSpec Try.prog 76 [rep l1] (rep r) := by
  unfold ref_JumpsOf at h
  refine FSpec.intro (n := 112) fnok76 Try.func76 rfl Try.ntmps76 rfl (fun F => ?_)
  refine .seq ?_
  refine .region [] mixed (by kernel_rfl) ?_
  refine .cons (.assign .none (.const (x := ([] : (List (List Int)))) (fun M w => ⟨_, ⟨none, 0, rfl, Nat.le_refl _, by decide, rfl⟩, rfl⟩))) rfl ?_
  refine .nil ?_
  refine .then ?_
  refine .seq ?_
  refine .region [([], []), ([], []), ([], [15]), ([15], [3, 15])] mixed (by kernel_rfl) ?_
  refine .consA (.move .none (.s rfl)) rfl ?_
  obtain ⟨v1, hv1, h⟩ := bnd_some h
  refine .consA (.re hv1 (.len .none sl85 (.s rfl))) rfl ?_
  obtain ⟨hn2, h⟩ := need_some h
  refine .consW (.post1 (.makeSlice rkraw86 zraw90 rfl (.s rfl) (.s rfl) hn2) (fun M D v w h => rowD_nils (E2 := 3) (mk := mkR) (sub := subR) (a := ([] : (List Int))) rfl rfl h)) rfl rfl ?_
  refine .consW (.passRow rfl (.tmp rfl)) rfl rfl ?_
  refine .nil ?_
  refine .then ?_
  obtain ⟨out1, hv3, h⟩ := bnd_some h
  refine .reB (t := 3) rfl (congrArg (rowD 90 3 mkR subR []) hv3) ?_
  refine .nameC (t := 3) (g := 5001) oneRowD rfl rfl rfl (fun s5001 => ?_)
  refine .seq ?_
  refine .seq ?_
  refine .region [] mixed (by kernel_rfl) ?_
  refine .cons (.move .none (.s rfl)) rfl ?_
  refine .cons (.len .none sl85 (.s rfl)) rfl ?_
  refine .cons (.move .none (.int (by decide))) rfl ?_
  refine .nil ?_
  refine .then ?_
  obtain ⟨j_4, h, hK4⟩ := bind_some h
  refine .thenJ (ι := (List (List Int))) (fun j_4 => []) (fun j_4 => [(5001, some (CPred.at s5001 (rowD 90 3 mkR subR [] j_4)))]) (fun s => j_4 = s) (.cons (t := 3) rfl Sub.nil) SubB.nil ?_ (fun j_4' hj4 => ?_)
  · skip
    refine .block ?_
    refine .rforL h (fun p5_ => [(18, ⟨True, rep p5_.1⟩)]) (fun p5_ => [(5001, some (CPred.at s5001 (rowD 90 3 mkR subR [] p5_.2)))]) (.cons (t := 18) rfl Sub.nil) (.cons (t := 5001) rfl SubB.nil) (.cons (t := 0) rfl (.cons (t := 3) rfl (.cons (t := 16) rfl (.cons (t := 17) rfl Sub.nil)))) SubB.nil (fun p5_ o_5 h hD5 => ?_)
    refine .seq ?_
    refine .region [] mixed (by kernel_rfl) ?_
    refine .cons (.lt .none (.s rfl) (.s rfl)) rfl ?_
    refine .nil ?_
    refine .then ?_
    refine .seq ?_
    refine .cond (t := 19) rfl trivial (fun hb6 => ?_) (fun hb6 => ?_)
    · replace h := bif_t h hb6
      refine .skip ?_
      refine .then ?_
      refine .seq ?_
      obtain ⟨j_7, h, hK7⟩ := bind_some h
      unfold ref_JumpsOf_L1 at h
      refine .thenJ (ι := (List (List Int))) (fun j_7 => []) (fun j_7 => [(5001, some (CPred.at s5001 (rowD 90 3 mkR subR [] j_7)))]) (fun s => j_7 = s) (.cons (t := 0) rfl (.cons (t := 3) rfl (.cons (t := 16) rfl (.cons (t := 17) rfl (.cons (t := 18) rfl Sub.nil))))) SubB.nil ?_ (fun j_7' hj7 => ?_)
      · skip
        refine .block ?_
        refine .seq ?_
        refine .region [] mixed (by kernel_rfl) ?_
        refine .cons (.move .none (.s rfl)) rfl ?_
        obtain ⟨hn8, h⟩ := need_some h
        refine .cons (.indexAddr .none sl85 ty66 (.s rfl) (.s rfl) (fun _ => hn8)) rfl ?_
        refine .cons (.load .none ty66 (.s rfl)) rfl ?_
        refine .cons (.assign .none (.s rfl)) rfl ?_
        obtain ⟨a1, hv9, h⟩ := bnd_some h
        refine .cons (.re hv9 (.assign .none (.s rfl))) rfl ?_
        refine .nil ?_
        refine .then ?_
        refine .seq ?_
        refine .region [] mixed (by kernel_rfl) ?_
        refine .cons (.assign .none (.int (by decide))) rfl ?_
        refine .nil ?_
        refine .then ?_
        refine .seq ?_
        refine .seq ?_
        refine .region [] mixed (by kernel_rfl) ?_
        refine .cons (.assign .none (.int (by decide))) rfl ?_
        refine .nil ?_
        refine .then ?_
        obtain ⟨j_10, h, hK10⟩ := bind_some h
        refine .thenJ (ι := (List (List Int))) (fun j_10 => []) (fun j_10 => [(5001, some (CPred.at s5001 (rowD 90 3 mkR subR [] j_10)))]) (fun s => j_10 = s) (.cons (t := 0) rfl (.cons (t := 3) rfl (.cons (t := 4) rfl (.cons (t := 16) rfl (.cons (t := 17) rfl (.cons (t := 18) rfl Sub.nil)))))) SubB.nil ?_ (fun j_10' hj10 => ?_)
        · skip
          refine .block ?_
          refine .loopL h (fun s11_ => [(6, ⟨True, rep s11_.1⟩), (7, ⟨True, rep s11_.2.1⟩)]) (fun s11_ => [(5001, some (CPred.at s5001 (rowD 90 3 mkR subR [] s11_.2.2)))]) (.cons (t := 6) rfl (.cons (t := 7) rfl Sub.nil)) (.cons (t := 5001) rfl SubB.nil) (.cons (t := 0) rfl (.cons (t := 3) rfl (.cons (t := 4) rfl (.cons (t := 5) rfl (.cons (t := 16) rfl (.cons (t := 17) rfl (.cons (t := 18) rfl Sub.nil))))))) SubB.nil (fun s11_ o_11 h hD11 => ?_)
          unfold ref_JumpsOf_L2 at h
          refine .seq ?_
          refine .seq ?_
          refine .region [] mixed (by kernel_rfl) ?_
          refine .cons (.move .none (.s rfl)) rfl ?_
          refine .cons (.move .none (.s rfl)) rfl ?_
          refine .cons (.len .none sl66 (.s rfl)) rfl ?_
          refine .cons (.lt .none (.s rfl) (.s rfl)) rfl ?_
          refine .nil ?_
          refine .then ?_
          refine .cond (t := 26) rfl trivial (fun hb12 => ?_) (fun hb12 => ?_)
          · replace h := bif_t h hb12
            refine .skip ?_
            refine .then ?_
            refine .seq ?_
            obtain ⟨j_13, h, hK13⟩ := bind_some h
            refine .thenJ (ι := (Int × (List (List Int)))) (fun j_13 => [(6, ⟨True, rep j_13.1⟩)]) (fun j_13 => [(5001, some (CPred.at s5001 (rowD 90 3 mkR subR [] j_13.2)))]) (fun s => j_13 = s) (.cons (t := 0) rfl (.cons (t := 3) rfl (.cons (t := 4) rfl (.cons (t := 5) rfl (.cons (t := 7) rfl (.cons (t := 16) rfl (.cons (t := 17) rfl (.cons (t := 18) rfl Sub.nil)))))))) SubB.nil ?_ (fun j_13' hj13 => ?_)
            · skip
              refine .block ?_
              refine .seq ?_
              refine .seq ?_
              refine .region [] mixed (by kernel_rfl) ?_
              refine .cons (.move .none (.s rfl)) rfl ?_
              refine .cons (.move .none (.s rfl)) rfl ?_
              obtain ⟨hn14, h⟩ := need_some h
              obtain ⟨v2, hv15, h⟩ := bnd_some h
              refine .cons (.re hv15 (.slice .none sl85 ty66 (.s rfl) rfl (.s rfl) (fun _ => hn14))) rfl ?_
              refine .cons (.len .none sl85 (.s rfl)) rfl ?_
              refine .cons (.move .none (.int (by decide))) rfl ?_
              refine .nil ?_
              refine .then ?_
              obtain ⟨j_16, h, hK16⟩ := bind_some h
              refine .thenJ (ι := (List (List Int))) (fun j_16 => []) (fun j_16 => [(5001, some (CPred.at s5001 (rowD 90 3 mkR subR [] j_16)))]) (fun s => j_16 = s) (.cons (t := 0) rfl (.cons (t := 3) rfl (.cons (t := 4) rfl (.cons (t := 5) rfl (.cons (t := 6) rfl (.cons (t := 7) rfl (.cons (t := 16) rfl (.cons (t := 17) rfl (.cons (t := 18) rfl Sub.nil))))))))) SubB.nil ?_ (fun j_16' hj16 => ?_)
              · skip
                refine .block ?_
                refine .rforL h (fun p17_ => [(33, ⟨True, rep p17_.1⟩)]) (fun p17_ => [(5001, some (CPred.at s5001 (rowD 90 3 mkR subR [] p17_.2)))]) (.cons (t := 33) rfl Sub.nil) (.cons (t := 5001) rfl SubB.nil) (.cons (t := 0) rfl (.cons (t := 3) rfl (.cons (t := 4) rfl (.cons (t := 5) rfl (.cons (t := 6) rfl (.cons (t := 7) rfl (.cons (t := 16) rfl (.cons (t := 17) rfl (.cons (t := 18) rfl (.cons (t := 31) rfl (.cons (t := 32) rfl Sub.nil))))))))))) SubB.nil (fun p17_ o_17 h hD17 => ?_)
                refine .seq ?_
                refine .region [] mixed (by kernel_rfl) ?_
                refine .cons (.lt .none (.s rfl) (.s rfl)) rfl ?_
                refine .nil ?_
                refine .then ?_
                refine .seq ?_
                refine .cond (t := 34) rfl trivial (fun hb18 => ?_) (fun hb18 => ?_)
                · replace h := bif_t h hb18
                  refine .skip ?_
                  refine .then ?_
                  refine .seq ?_
                  obtain ⟨j_19, h, hK19⟩ := bind_some h
                  unfold ref_JumpsOf_L3 at h
                  refine .thenJ (ι := (List (List Int))) (fun j_19 => []) (fun j_19 => [(5001, some (CPred.at s5001 (rowD 90 3 mkR subR [] j_19)))]) (fun s => j_19 = s) (.cons (t := 0) rfl (.cons (t := 3) rfl (.cons (t := 4) rfl (.cons (t := 5) rfl (.cons (t := 6) rfl (.cons (t := 7) rfl (.cons (t := 16) rfl (.cons (t := 17) rfl (.cons (t := 18) rfl (.cons (t := 31) rfl (.cons (t := 32) rfl (.cons (t := 33) rfl Sub.nil)))))))))))) SubB.nil ?_ (fun j_19' hj19 => ?_)
                  · skip
                    refine .block ?_
                    refine .seq ?_
                    refine .region [] mixed (by kernel_rfl) ?_
                    obtain ⟨hn20, h⟩ := need_some h
                    refine .cons (.indexAddr .none sl85 ty66 (.s rfl) (.s rfl) (fun _ => hn20)) rfl ?_
                    refine .cons (.load .none ty66 (.s rfl)) rfl ?_
                    obtain ⟨b1, hv21, h⟩ := bnd_some h
                    refine .cons (.re hv21 (.assign .none (.s rfl))) rfl ?_
                    refine .nil ?_
                    refine .then ?_
                    refine .seq ?_
                    refine .region [] mixed (by kernel_rfl) ?_
                    refine .cons (.assign .none (.int (by decide))) rfl ?_
                    refine .nil ?_
                    refine .then ?_
                    refine .block ?_
                    refine .loopL h (fun s22_ => [(10, ⟨True, rep s22_.1⟩)]) (fun s22_ => [(5001, some (CPred.at s5001 (rowD 90 3 mkR subR [] s22_.2)))]) (.cons (t := 10) rfl Sub.nil) (.cons (t := 5001) rfl SubB.nil) (.cons (t := 0) rfl (.cons (t := 3) rfl (.cons (t := 4) rfl (.cons (t := 5) rfl (.cons (t := 6) rfl (.cons (t := 7) rfl (.cons (t := 9) rfl (.cons (t := 16) rfl (.cons (t := 17) rfl (.cons (t := 18) rfl (.cons (t := 31) rfl (.cons (t := 32) rfl (.cons (t := 33) rfl Sub.nil))))))))))))) SubB.nil (fun s22_ o_22 h hD22 => ?_)
                    unfold ref_JumpsOf_L4 at h
                    refine .seq ?_
                    refine .seq ?_
                    refine .region [] mixed (by kernel_rfl) ?_
                    refine .cons (.move .none (.s rfl)) rfl ?_
                    refine .cons (.move .none (.s rfl)) rfl ?_
                    refine .cons (.len .none sl66 (.s rfl)) rfl ?_
                    refine .cons (.lt .none (.s rfl) (.s rfl)) rfl ?_
                    refine .nil ?_
                    refine .then ?_
                    refine .cond (t := 40) rfl trivial (fun hb23 => ?_) (fun hb23 => ?_)
                    · replace h := bif_t h hb23
                      refine .skip ?_
                      refine .then ?_
                      refine .seq ?_
                      obtain ⟨j_24, h, hK24⟩ := bind_some h
                      refine .thenJ (ι := (List (List Int))) (fun j_24 => []) (fun j_24 => [(5001, some (CPred.at s5001 (rowD 90 3 mkR subR [] j_24)))]) (fun s => j_24 = s) (.cons (t := 0) rfl (.cons (t := 3) rfl (.cons (t := 4) rfl (.cons (t := 5) rfl (.cons (t := 6) rfl (.cons (t := 7) rfl (.cons (t := 9) rfl (.cons (t := 10) rfl (.cons (t := 16) rfl (.cons (t := 17) rfl (.cons (t := 18) rfl (.cons (t := 31) rfl (.cons (t := 32) rfl (.cons (t := 33) rfl Sub.nil)))))))))))))) SubB.nil ?_ (fun j_24' hj24 => ?_)
                      · skip
                        refine .block ?_
                        refine .seq ?_
                        refine .region [([], []), ([], []), ([], []), ([], []), ([], []), ([], []), ([], []), ([], []), ([], []), ([], []), ([], []), ([], []), ([], []), ([], []), ([], []), ([], []), ([], []), ([], []), ([], []), ([], []), ([], []), ([], []), ([], [11]), ([11], [11]), ([], [])] mixed (by kernel_rfl) ?_
                        refine .consA (.move .none (.s rfl)) rfl ?_
                        refine .consA (.move .none (.s rfl)) rfl ?_
                        refine .consA (.subW .none (.s rfl) (.int (by decide))) rfl ?_
                        obtain ⟨hn25, h⟩ := need_some h
                        refine .consA (.indexAddr .none sl66 ty23 (.s rfl) (.s rfl) (fun _ => hn25)) rfl ?_
                        refine .consA (.load .none ty23 (.s rfl)) rfl ?_
                        refine .consA (.move .none (.s rfl)) rfl ?_
                        refine .consA (.move .none (.s rfl)) rfl ?_
                        obtain ⟨hn26, h⟩ := need_some h
                        refine .consA (.indexAddr .none sl66 ty23 (.s rfl) (.s rfl) (fun _ => hn26)) rfl ?_
                        refine .consA (.load .none ty23 (.s rfl)) rfl ?_
                        refine .consA (.move .none (.s rfl)) rfl ?_
                        refine .consA (.move .none (.s rfl)) rfl ?_
                        refine .consA (.subW .none (.s rfl) (.int (by decide))) rfl ?_
                        obtain ⟨hn27, h⟩ := need_some h
                        refine .consA (.indexAddr .none sl66 ty23 (.s rfl) (.s rfl) (fun _ => hn27)) rfl ?_
                        refine .consA (.load .none ty23 (.s rfl)) rfl ?_
                        refine .consA (.move .none (.s rfl)) rfl ?_
                        refine .consA (.move .none (.s rfl)) rfl ?_
                        obtain ⟨hn28, h⟩ := need_some h
                        refine .consA (.indexAddr .none sl66 ty23 (.s rfl) (.s rfl) (fun _ => hn28)) rfl ?_
                        refine .consA (.load .none ty23 (.s rfl)) rfl ?_
                        obtain ⟨r1, hv29, h⟩ := bind_some h
                        refine .consA (.call .none (ref_crossing_ok hv29) (.cons (.s rfl) (.cons (.s rfl) (.cons (.s rfl) (.cons (.s rfl) .nil))))) rfl ?_
                        refine .consA (.move .none (.s rfl)) rfl ?_
                        refine .consA (.extract .none (.s rfl) rfl) rfl ?_
                        refine .consA (.extract .none (.s rfl) rfl) rfl ?_
                        refine .consW (.alloc zo23 rfl) rfl rfl ?_
                        refine .consN (.store ty23 rfl rfl (.s rfl)) rfl ?_
                        refine .consA (.assign .none (.s rfl)) rfl ?_
                        refine .nil ?_
                        refine .then ?_
                        refine .freeze (t := 11) rfl rfl (.cons (t := 5001) rfl SubB.nil) rfl ?_
                        refine .seq ?_
                        refine .region [] mixed (by kernel_rfl) ?_
                        refine .cons (.move .none (.s rfl)) rfl ?_
                        refine .nil ?_
                        refine .then ?_
                        refine .cond (t := 65) rfl trivial (fun hb30 => ?_) (fun hb30 => ?_)
                        · replace h := bif_t h hb30
                          obtain ⟨hn31, h⟩ := need_some h
                          refine .openD (k := 5001) (g := 5002) (i := p5_.1) rfl rfl hn31 noHole (fun s5002 => ?_)
                          refine .region [([], []), ([], []), ([], []), ([], []), ([5001], []), ([5001], []), ([], []), ([], []), ([], []), ([], []), ([], []), ([], []), ([], []), ([], []), ([], []), ([], []), ([5002], [82, 5002]), ([5001], []), ([5001, 82], [5001, 82])] mixed (by kernel_rfl) ?_
                          refine .consA (.move .none (.s rfl)) rfl ?_
                          refine .consA (.move .none (.s rfl)) rfl ?_
                          refine .consA (.move .none (.s rfl)) rfl ?_
                          refine .consA (.move .none (.s rfl)) rfl ?_
                          obtain ⟨hn32, h⟩ := need_some h
                          refine .consA (.indexAddrD (k := 5001) sl86 tr90 (.s rfl) rfl (.s rfl) hn32) rfl ?_
                          refine .consA (.loadElemD (k := 5001) (proj := fun x => x) (y := (⟨s5002⟩ : Raw)) (z := s5002) tr90 (.s rfl) rfl .id hn32 (by simp) rfl) rfl ?_
                          refine .consA (.move .none (.s rfl)) rfl ?_
                          refine .consA (.move .none (.s rfl)) rfl ?_
                          refine .consA (.move .none (.s rfl)) rfl ?_
                          refine .consA (.subW .none (.s rfl) (.int (by decide))) rfl ?_
                          obtain ⟨hn33, h⟩ := need_some h
                          refine .consA (.indexAddr .none sl66 ty23 (.s rfl) (.s rfl) (fun _ => hn33)) rfl ?_
                          refine .consA (.load .none ty23 (.s rfl)) rfl ?_
                          refine .consA (.load .none ty23 (.s rfl)) rfl ?_
                          obtain ⟨r2, hv34, h⟩ := bind_some h
                          refine .consA (.call .none (ref_Far_ok hv34) (.cons (.s rfl) (.cons (.s rfl) .nil))) rfl ?_
                          refine .consA (.addW .none (.s rfl) (.s rfl)) rfl ?_
                          refine .consA (.buildSlice (xs := [_]) .none sl90 ty3 hz3 (.cons (.s rfl) .nil) rfl (by decide)) rfl ?_
                          obtain ⟨hn35, h⟩ := need_some h
                          refine .consW (.append (k := 5002) rk90 rfl (.told (.s rfl) rfl) (.s rfl) hn35) rfl rfl ?_
                          obtain ⟨hn36, h⟩ := need_some h
                          refine .consA (.indexAddrD (k := 5001) sl86 tr90 (.s rfl) rfl (.s rfl) hn36) rfl ?_
                          refine .consN (.storeElemD (k := 5001) (t := 82) (set := fun _ z => z) (hs' := []) ((gx s22_.2 p5_.1) ++ [W (s11_.1 + r2)]) ty90 (.s rfl) rfl .self rfl hn36 rfl (by simp) (by simp) (fun _ _ => rfl) rfl) rfl ?_
                          refine .nil ?_
                          refine .blkNormal ?_
                          exact Ends.join _ (some_eq h) (.cons (t := 0) rfl (.cons (t := 3) rfl (.cons (t := 4) rfl (.cons (t := 5) rfl (.cons (t := 6) rfl (.cons (t := 7) rfl (.cons (t := 9) rfl (.cons (t := 10) rfl (.cons (t := 16) rfl (.cons (t := 17) rfl (.cons (t := 18) rfl (.cons (t := 31) rfl (.cons (t := 32) rfl (.cons (t := 33) rfl Sub.nil)))))))))))))) (.cons (t := 5001) rfl SubB.nil)
                        · replace h := bif_f h hb30
                          refine .skip ?_
                          refine .blkNormal ?_
                          exact Ends.join _ (some_eq h) (.cons (t := 0) rfl (.cons (t := 3) rfl (.cons (t := 4) rfl (.cons (t := 5) rfl (.cons (t := 6) rfl (.cons (t := 7) rfl (.cons (t := 9) rfl (.cons (t := 10) rfl (.cons (t := 16) rfl (.cons (t := 17) rfl (.cons (t := 18) rfl (.cons (t := 31) rfl (.cons (t := 32) rfl (.cons (t := 33) rfl Sub.nil)))))))))))))) (.cons (t := 5001) rfl SubB.nil)
                      · subst hj24; have h := hK24; clear hK24
                        refine .region [] mixed (by kernel_rfl) ?_
                        refine .cons (.move .none (.s rfl)) rfl ?_
                        refine .cons (.addW .none (.s rfl) (.int (by decide))) rfl ?_
                        obtain ⟨j1, hv37, h⟩ := bnd_some h
                        refine .cons (.re hv37 (.assign .none (.s rfl))) rfl ?_
                        refine .nil ?_
                        exact Ends.againL (some_eq h) (.cons (t := 10) rfl (.cons (t := 0) rfl (.cons (t := 3) rfl (.cons (t := 4) rfl (.cons (t := 5) rfl (.cons (t := 6) rfl (.cons (t := 7) rfl (.cons (t := 9) rfl (.cons (t := 16) rfl (.cons (t := 17) rfl (.cons (t := 18) rfl (.cons (t := 31) rfl (.cons (t := 32) rfl (.cons (t := 33) rfl Sub.nil)))))))))))))) (.cons (t := 5001) rfl SubB.nil)
                    · replace h := bif_f h hb23
                      refine .exit ?_
                      refine .thenExit ?_
                      refine .thenExit ?_
                      refine .blkExit ?_
                      refine .blkNormal ?_
                      replace h := hD22 _ (some_eq h)
                      exact Ends.join _ (some_eq h) (.cons (t := 0) rfl (.cons (t := 3) rfl (.cons (t := 4) rfl (.cons (t := 5) rfl (.cons (t := 6) rfl (.cons (t := 7) rfl (.cons (t := 16) rfl (.cons (t := 17) rfl (.cons (t := 18) rfl (.cons (t := 31) rfl (.cons (t := 32) rfl (.cons (t := 33) rfl Sub.nil)))))))))))) (.cons (t := 5001) rfl SubB.nil)
                  · subst hj19; have h := hK19; clear hK19
                    refine .region [] mixed (by kernel_rfl) ?_
                    refine .cons (.addW .none (.s rfl) (.int (by decide))) rfl ?_
                    refine .cons (.move .none (.s rfl)) rfl ?_
                    refine .nil ?_
                    exact Ends.againL (some_eq h) (.cons (t := 33) rfl (.cons (t := 0) rfl (.cons (t := 3) rfl (.cons (t := 4) rfl (.cons (t := 5) rfl (.cons (t := 6) rfl (.cons (t := 7) rfl (.cons (t := 16) rfl (.cons (t := 17) rfl (.cons (t := 18) rfl (.cons (t := 31) rfl (.cons (t := 32) rfl Sub.nil)))))))))))) (.cons (t := 5001) rfl SubB.nil)
                · replace h := bif_f h hb18
                  refine .exit ?_
                  refine .thenExit ?_
                  refine .thenExit ?_
                  refine .blkExit ?_
                  replace h := hD17 _ (some_eq h)
                  exact Ends.join _ (some_eq h) (.cons (t := 0) rfl (.cons (t := 3) rfl (.cons (t := 4) rfl (.cons (t := 5) rfl (.cons (t := 6) rfl (.cons (t := 7) rfl (.cons (t := 16) rfl (.cons (t := 17) rfl (.cons (t := 18) rfl Sub.nil))))))))) (.cons (t := 5001) rfl SubB.nil)
              · subst hj16; have h := hK16; clear hK16
                refine .region [] mixed (by kernel_rfl) ?_
                refine .cons (.move .none (.s rfl)) rfl ?_
                refine .cons (.move .none (.s rfl)) rfl ?_
                refine .cons (.move .none (.s rfl)) rfl ?_
                refine .cons (.subW .none (.s rfl) (.int (by decide))) rfl ?_
                obtain ⟨hn38, h⟩ := need_some h
                refine .cons (.indexAddr .none sl66 ty23 (.s rfl) (.s rfl) (fun _ => hn38)) rfl ?_
                refine .cons (.load .none ty23 (.s rfl)) rfl ?_
                refine .cons (.move .none (.s rfl)) rfl ?_
                refine .cons (.move .none (.s rfl)) rfl ?_
                obtain ⟨hn39, h⟩ := need_some h
                refine .cons (.indexAddr .none sl66 ty23 (.s rfl) (.s rfl) (fun _ => hn39)) rfl ?_
                refine .cons (.load .none ty23 (.s rfl)) rfl ?_
                obtain ⟨r3, hv40, h⟩ := bind_some h
                refine .cons (.call .none (ref_Far_ok hv40) (.cons (.s rfl) (.cons (.s rfl) .nil))) rfl ?_
                refine .cons (.addW .none (.s rfl) (.s rfl)) rfl ?_
                obtain ⟨at1, hv41, h⟩ := bnd_some h
                refine .cons (.re hv41 (.assign .none (.s rfl))) rfl ?_
                refine .nil ?_
                refine .blkNormal ?_
                exact Ends.join _ (some_eq h) (.cons (t := 6) rfl (.cons (t := 0) rfl (.cons (t := 3) rfl (.cons (t := 4) rfl (.cons (t := 5) rfl (.cons (t := 7) rfl (.cons (t := 16) rfl (.cons (t := 17) rfl (.cons (t := 18) rfl Sub.nil))))))))) (.cons (t := 5001) rfl SubB.nil)
            · subst hj13; have h := hK13; clear hK13
              refine .region [] mixed (by kernel_rfl) ?_
              refine .cons (.move .none (.s rfl)) rfl ?_
              refine .cons (.addW .none (.s rfl) (.int (by decide))) rfl ?_
              obtain ⟨i1, hv42, h⟩ := bnd_some h
              refine .cons (.re hv42 (.assign .none (.s rfl))) rfl ?_
              refine .nil ?_
              exact Ends.againL (some_eq h) (.cons (t := 6) rfl (.cons (t := 7) rfl (.cons (t := 0) rfl (.cons (t := 3) rfl (.cons (t := 4) rfl (.cons (t := 5) rfl (.cons (t := 16) rfl (.cons (t := 17) rfl (.cons (t := 18) rfl Sub.nil))))))))) (.cons (t := 5001) rfl SubB.nil)
          · replace h := bif_f h hb12
            refine .exit ?_
            refine .thenExit ?_
            refine .thenExit ?_
            refine .blkExit ?_
            replace h := hD11 _ (some_eq h)
            exact Ends.join _ (some_eq h) (.cons (t := 0) rfl (.cons (t := 3) rfl (.cons (t := 4) rfl (.cons (t := 16) rfl (.cons (t := 17) rfl (.cons (t := 18) rfl Sub.nil)))))) (.cons (t := 5001) rfl SubB.nil)
        · subst hj10; have h := hK10; clear hK10
          refine .seq ?_
          obtain ⟨hn43, h⟩ := need_some h
          refine .openD (k := 5001) (g := 5003) (i := p5_.1) rfl rfl hn43 noHole (fun s5003 => ?_)
          refine .region [([], []), ([], []), ([5001], []), ([5001], []), ([5003], [5003])] mixed (by kernel_rfl) ?_
          refine .consA (.move .none (.s rfl)) rfl ?_
          refine .consA (.move .none (.s rfl)) rfl ?_
          obtain ⟨hn44, h⟩ := need_some h
          refine .consA (.indexAddrD (k := 5001) sl86 tr90 (.s rfl) rfl (.s rfl) hn44) rfl ?_
          refine .consA (.loadElemD (k := 5001) (proj := fun x => x) (y := (⟨s5003⟩ : Raw)) (z := s5003) tr90 (.s rfl) rfl .id hn44 (by simp) rfl) rfl ?_
          obtain ⟨r4, hv45, h⟩ := bind_some h
          refine .consW (.callO [5003] (slices_Sort_int_ok hv45) (.cons (.s rfl) .nil) (.cons (k := 5003) rfl .nil) rfl (by decide) (by decide) (by intro d h; cases h; decide)) rfl rfl ?_
          refine .nil ?_
          refine .then ?_
          refine .closeD (k := 5001) (g := 5003) r4 rfl rfl rfl hn43 noHole (fun _ => rfl) rfl ?_
          obtain ⟨out2, hv46, h⟩ := bnd_some h
          refine .reB (t := 5001) rfl (congrArg (fun y => CPred.at s5001 (rowD 90 3 mkR subR [] y)) hv46) ?_
          obtain ⟨hn47, h⟩ := need_some h
          refine .openD (k := 5001) (g := 5004) (i := p5_.1) rfl rfl hn47 noHole (fun s5004 => ?_)
          refine .region [([], []), ([], []), ([], []), ([], []), ([5001], []), ([5001], []), ([5004], [5004, 108]), ([5001], []), ([5001, 108], [5001, 108])] mixed (by kernel_rfl) ?_
          refine .consA (.move .none (.s rfl)) rfl ?_
          refine .consA (.move .none (.s rfl)) rfl ?_
          refine .consA (.move .none (.s rfl)) rfl ?_
          refine .consA (.move .none (.s rfl)) rfl ?_
          obtain ⟨hn48, h⟩ := need_some h
          refine .consA (.indexAddrD (k := 5001) sl86 tr90 (.s rfl) rfl (.s rfl) hn48) rfl ?_
          refine .consA (.loadElemD (k := 5001) (proj := fun x => x) (y := (⟨s5004⟩ : Raw)) (z := s5004) tr90 (.s rfl) rfl .id hn48 (by simp) rfl) rfl ?_
          obtain ⟨r5, hv49, h⟩ := bind_some h
          refine .consW (.callO [5004] (slices_Compact_int_ok hv49) (.cons (.s rfl) .nil) (.cons (k := 5004) rfl .nil) rfl (by decide) (by decide) (by intro d h; cases h; decide)) rfl rfl ?_
          obtain ⟨hn50, h⟩ := need_some h
          refine .consA (.indexAddrD (k := 5001) sl86 tr90 (.s rfl) rfl (.s rfl) hn50) rfl ?_
          refine .consN (.storeElemD (k := 5001) (t := 108) (set := fun _ z => z) (hs' := []) r5 ty90 (.s rfl) rfl .self rfl hn50 rfl (by simp) (by simp) (fun _ _ => rfl) rfl) rfl ?_
          refine .nil ?_
          refine .blkNormal ?_
          exact Ends.join _ (some_eq h) (.cons (t := 0) rfl (.cons (t := 3) rfl (.cons (t := 16) rfl (.cons (t := 17) rfl (.cons (t := 18) rfl Sub.nil))))) (.cons (t := 5001) rfl SubB.nil)
      · subst hj7; have h := hK7; clear hK7
        refine .region [] mixed (by kernel_rfl) ?_
        refine .cons (.addW .none (.s rfl) (.int (by decide))) rfl ?_
        refine .cons (.move .none (.s rfl)) rfl ?_
        refine .nil ?_
        exact Ends.againL (some_eq h) (.cons (t := 18) rfl (.cons (t := 0) rfl (.cons (t := 3) rfl (.cons (t := 16) rfl (.cons (t := 17) rfl Sub.nil))))) (.cons (t := 5001) rfl SubB.nil)
    · replace h := bif_f h hb6
      refine .exit ?_
      refine .thenExit ?_
      refine .thenExit ?_
      refine .blkExit ?_
      replace h := hD5 _ (some_eq h)
      exact Ends.join _ (some_eq h) (.cons (t := 3) rfl Sub.nil) (.cons (t := 5001) rfl SubB.nil)
  · subst hj4; have h := hK4; clear hK4
    refine .freezeAt (g := 5001) (S := rep j_4) (ts := [3]) rfl (.cons (t := 3) rfl trivial .nil) SubB.nil rfl (fun M D w h hms => rowR_rep h hms) ?_
    refine .seq ?_
    refine .region [] mixed (by kernel_rfl) ?_
    refine .cons (.move .none (.s rfl)) rfl ?_
    refine .cons (.assign .none (.s rfl)) rfl ?_
    refine .nil ?_
    refine .then ?_
    refine .ret ?_
    obtain rfl := some_eq h
    exact Ends.ret1 (.inl rfl) Try.results76 (ResOK.tmp rfl trivial Imp.refl)

theorem slices_EqualFunc_Lint_ok {s1_1 : (List (List Int))} {s2_1 : (List (List Int))} {eq1 : ((List Int) → (List Int) → Option Bool)} {r : Bool}  (h : slices_EqualFunc_Lint s1_1 s2_1 eq1 = some r) : FSpec Try.prog 75 [rep s1_1, rep s2_1, fn2 Try.prog (rep (α := Bool)) eq1] (rep r) := by
  unfold slices_EqualFunc_Lint at h
  refine FSpec.intro (n := 32) fnok75 Try.func75 rfl Try.ntmps75 rfl (fun F => ?_)
  refine .seq ?_
  refine .region [] mixed (by kernel_rfl) ?_
  refine .cons (.assign .none .bool) rfl ?_
  refine .nil ?_
  refine .then ?_
  refine .seq ?_
  refine .seq ?_
  refine .region [] mixed (by kernel_rfl) ?_
  refine .cons (.move .none (.s rfl)) rfl ?_
  refine .cons (.len .none sl86 (.s rfl)) rfl ?_
  refine .cons (.move .none (.s rfl)) rfl ?_
  refine .cons (.len .none sl86 (.s rfl)) rfl ?_
  refine .cons (.neI .none (.s rfl) (.s rfl)) rfl ?_
  refine .nil ?_
  refine .then ?_
  refine .cond (t := 14) rfl trivial (fun hb1 => ?_) (fun hb1 => ?_)
  · replace h := bif_t h hb1
    refine .seq ?_
    refine .region [] mixed (by kernel_rfl) ?_
    refine .cons (.assign .none .bool) rfl ?_
    refine .nil ?_
    refine .then ?_
    refine .ret ?_
    refine .thenRet ?_
    obtain rfl := some_eq h
    exact Ends.ret1 (.inl rfl) Try.results75 (ResOK.tmp rfl trivial Imp.refl)
  · replace h := bif_f h hb1
    refine .skip ?_
    refine .then ?_
    refine .seq ?_
    refine .seq ?_
    refine .region [] mixed (by kernel_rfl) ?_
    refine .cons (.move .none (.s rfl)) rfl ?_
    refine .cons (.len .none sl86 (.s rfl)) rfl ?_
    refine .cons (.move .none (.int (by decide))) rfl ?_
    refine .nil ?_
    refine .then ?_
    obtain ⟨o_2, h, hK2⟩ := bindR_some h
    refine .thenJ (ι := Unit) (fun j_2 => []) (fun j_2 => []) (fun s => o_2 = Res.nx s) Sub.nil SubB.nil ?_ (fun j_2 hj2 => ?_)
    · skip
      refine .block ?_
      refine .rforEL h (fun p3_ => [(17, ⟨True, rep p3_.1⟩)]) (fun p3_ => []) (.cons (t := 17) rfl Sub.nil) SubB.nil (.cons (t := 1) rfl (.cons (t := 2) rfl (.cons (t := 15) rfl (.cons (t := 16) rfl Sub.nil)))) SubB.nil (fun p3_ o_3 h hD3 => ?_)
      refine .seq ?_
      refine .region [] mixed (by kernel_rfl) ?_
      refine .cons (.lt .none (.s rfl) (.s rfl)) rfl ?_
      refine .nil ?_
      refine .then ?_
      refine .seq ?_
      refine .cond (t := 18) rfl trivial (fun hb4 => ?_) (fun hb4 => ?_)
      · replace h := bif_t h hb4
        refine .skip ?_
        refine .then ?_
        refine .seq ?_
        obtain ⟨o_5, h, hK5⟩ := bindD_some h
        unfold slices_EqualFunc_Lint_L1 at h
        refine .thenJ (ι := Unit) (fun j_5 => []) (fun j_5 => []) (fun s => o_5 = Res.nx s) (.cons (t := 1) rfl (.cons (t := 2) rfl (.cons (t := 15) rfl (.cons (t := 16) rfl (.cons (t := 17) rfl Sub.nil))))) SubB.nil ?_ (fun j_5 hj5 => ?_)
        · skip
          refine .block ?_
          refine .seq ?_
          refine .region [] mixed (by kernel_rfl) ?_
          refine .cons (.move .none (.s rfl)) rfl ?_
          obtain ⟨hn6, h⟩ := need_some h
          refine .cons (.indexAddr .none sl86 ty90 (.s rfl) (.s rfl) (fun _ => hn6)) rfl ?_
          refine .cons (.load .none ty90 (.s rfl)) rfl ?_
          refine .cons (.assign .none (.s rfl)) rfl ?_
          refine .cons (.assign .none (.s rfl)) rfl ?_
          refine .nil ?_
          refine .then ?_
          refine .seq ?_
          refine .region [] mixed (by kernel_rfl) ?_
          refine .cons (.move .none (.s rfl)) rfl ?_
          refine .cons (.move .none (.s rfl)) rfl ?_
          obtain ⟨hn7, h⟩ := need_some h
          refine .cons (.indexAddr .none sl86 ty90 (.s rfl) (.s rfl) (fun _ => hn7)) rfl ?_
          refine .cons (.load .none ty90 (.s rfl)) rfl ?_
          refine .cons (.assign .none (.s rfl)) rfl ?_
          refine .nil ?_
          refine .then ?_
          refine .seq ?_
          refine .region [] mixed (by kernel_rfl) ?_
          refine .cons (.move .none (.s rfl)) rfl ?_
          refine .cons (.move .none (.s rfl)) rfl ?_
          refine .cons (.move .none (.s rfl)) rfl ?_
          obtain ⟨r1, hv8, h⟩ := bind_some h
          refine .cons (.callV (gx s1_1 p3_.1, gx s2_1 p3_.1, r1) .none (.s rfl) (fun _ => hv8) (.cons (.s rfl) (.cons (.s rfl) .nil))) rfl ?_
          refine .cons (.not .none (.s rfl)) rfl ?_
          refine .nil ?_
          refine .then ?_
          refine .cond (t := 30) rfl trivial (fun hb9 => ?_) (fun hb9 => ?_)
          · replace h := bif_t h hb9
            refine .seq ?_
            refine .region [] mixed (by kernel_rfl) ?_
            refine .cons (.assign .none .bool) rfl ?_
            refine .nil ?_
            refine .then ?_
            refine .ret ?_
            refine .blkRet ?_
            refine .thenRet ?_
            refine .thenRet ?_
            refine .blkRet ?_
            refine .thenRet ?_
            replace h := resd_ab hK5 (some_eq h)
            replace h := hD3 _ (some_eq h)
            replace h := resb_ab hK2 (some_eq h)
            obtain rfl := some_eq h
            exact Ends.ret1 (.inl rfl) Try.results75 (ResOK.tmp rfl trivial Imp.refl)
          · replace h := bif_f h hb9
            refine .skip ?_
            refine .blkNormal ?_
            exact Ends.join _ (some_eq h) (.cons (t := 1) rfl (.cons (t := 2) rfl (.cons (t := 15) rfl (.cons (t := 16) rfl (.cons (t := 17) rfl Sub.nil))))) SubB.nil
        · have h := resd_nx hK5 hj5
          refine .region [] mixed (by kernel_rfl) ?_
          refine .cons (.addW .none (.s rfl) (.int (by decide))) rfl ?_
          refine .cons (.move .none (.s rfl)) rfl ?_
          refine .nil ?_
          exact Ends.againL (some_eq h) (.cons (t := 17) rfl (.cons (t := 1) rfl (.cons (t := 2) rfl (.cons (t := 15) rfl (.cons (t := 16) rfl Sub.nil))))) SubB.nil
      · replace h := bif_f h hb4
        refine .exit ?_
        refine .thenExit ?_
        refine .thenExit ?_
        refine .blkExit ?_
        replace h := hD3 _ (some_eq h)
        exact Ends.join _ (some_eq h) Sub.nil SubB.nil
    · have h := resb_nx hK2 hj2
      refine .seq ?_
      refine .region [] mixed (by kernel_rfl) ?_
      refine .cons (.assign .none .bool) rfl ?_
      refine .nil ?_
      refine .then ?_
      refine .ret ?_
      obtain rfl := some_eq h
      exact Ends.ret1 (.inl rfl) Try.results75 (ResOK.tmp rfl trivial Imp.refl)

theorem slices_Equal_int_ok {s1_1 : (List Int)} {s2_1 : (List Int)} {r : Bool}  (h : slices_Equal_int s1_1 s2_1 = some r) : FSpec Try.prog 78 [rep s1_1, rep s2_1] (rep r) := by
  unfold slices_Equal_int at h
  refine FSpec.intro (n := 26) fnok78 Try.func78 rfl Try.ntmps78 rfl (fun F => ?_)
  refine .seq ?_
  refine .region [] mixed (by kernel_rfl) ?_
  refine .cons (.assign .none .bool) rfl ?_
  refine .nil ?_
  refine .then ?_
  refine .seq ?_
  refine .seq ?_
  refine .region [] mixed (by kernel_rfl) ?_
  refine .cons (.move .none (.s rfl)) rfl ?_
  refine .cons (.len .none sl90 (.s rfl)) rfl ?_
  refine .cons (.move .none (.s rfl)) rfl ?_
  refine .cons (.len .none sl90 (.s rfl)) rfl ?_
  refine .cons (.neI .none (.s rfl) (.s rfl)) rfl ?_
  refine .nil ?_
  refine .then ?_
  refine .cond (t := 10) rfl trivial (fun hb1 => ?_) (fun hb1 => ?_)
  · replace h := bif_t h hb1
    refine .seq ?_
    refine .region [] mixed (by kernel_rfl) ?_
    refine .cons (.assign .none .bool) rfl ?_
    refine .nil ?_
    refine .then ?_
    refine .ret ?_
    refine .thenRet ?_
    obtain rfl := some_eq h
    exact Ends.ret1 (.inl rfl) Try.results78 (ResOK.tmp rfl trivial Imp.refl)
  · replace h := bif_f h hb1
    refine .skip ?_
    refine .then ?_
    refine .seq ?_
    refine .seq ?_
    refine .region [] mixed (by kernel_rfl) ?_
    refine .cons (.move .none (.s rfl)) rfl ?_
    refine .cons (.len .none sl90 (.s rfl)) rfl ?_
    refine .cons (.move .none (.int (by decide))) rfl ?_
    refine .nil ?_
    refine .then ?_
    obtain ⟨o_2, h, hK2⟩ := bindR_some h
    refine .thenJ (ι := Unit) (fun j_2 => []) (fun j_2 => []) (fun s => o_2 = Res.nx s) Sub.nil SubB.nil ?_ (fun j_2 hj2 => ?_)
    · skip
      refine .block ?_
      refine .rforEL h (fun p3_ => [(13, ⟨True, rep p3_.1⟩)]) (fun p3_ => []) (.cons (t := 13) rfl Sub.nil) SubB.nil (.cons (t := 0) rfl (.cons (t := 1) rfl (.cons (t := 12) rfl Sub.nil))) SubB.nil (fun p3_ o_3 h hD3 => ?_)
      refine .seq ?_
      refine .region [] mixed (by kernel_rfl) ?_
      refine .cons (.lt .none (.s rfl) (.s rfl)) rfl ?_
      refine .nil ?_
      refine .then ?_
      refine .seq ?_
      refine .cond (t := 14) rfl trivial (fun hb4 => ?_) (fun hb4 => ?_)
      · replace h := bif_t h hb4
        refine .skip ?_
        refine .then ?_
        refine .seq ?_
        obtain ⟨o_5, h, hK5⟩ := bindD_some h
        unfold slices_Equal_int_L1 at h
        refine .thenJ (ι := Unit) (fun j_5 => []) (fun j_5 => []) (fun s => o_5 = Res.nx s) (.cons (t := 0) rfl (.cons (t := 1) rfl (.cons (t := 12) rfl (.cons (t := 13) rfl Sub.nil)))) SubB.nil ?_ (fun j_5 hj5 => ?_)
        · skip
          refine .block ?_
          refine .seq ?_
          refine .region [] mixed (by kernel_rfl) ?_
          refine .cons (.move .none (.s rfl)) rfl ?_
          refine .cons (.assign .none (.s rfl)) rfl ?_
          refine .nil ?_
          refine .then ?_
          refine .seq ?_
          refine .region [] mixed (by kernel_rfl) ?_
          refine .cons (.move .none (.s rfl)) rfl ?_
          refine .cons (.move .none (.s rfl)) rfl ?_
          obtain ⟨hn6, h⟩ := need_some h
          refine .cons (.indexAddr .none sl90 ty3 (.s rfl) (.s rfl) (fun _ => hn6)) rfl ?_
          refine .cons (.load .none ty3 (.s rfl)) rfl ?_
          refine .cons (.move .none (.s rfl)) rfl ?_
          refine .cons (.move .none (.s rfl)) rfl ?_
          obtain ⟨hn7, h⟩ := need_some h
          refine .cons (.indexAddr .none sl90 ty3 (.s rfl) (.s rfl) (fun _ => hn7)) rfl ?_
          refine .cons (.load .none ty3 (.s rfl)) rfl ?_
          refine .cons (.neI .none (.s rfl) (.s rfl)) rfl ?_
          refine .nil ?_
          refine .then ?_
          refine .cond (t := 24) rfl trivial (fun hb8 => ?_) (fun hb8 => ?_)
          · replace h := bif_t h hb8
            refine .seq ?_
            refine .region [] mixed (by kernel_rfl) ?_
            refine .cons (.assign .none .bool) rfl ?_
            refine .nil ?_
            refine .then ?_
            refine .ret ?_
            refine .blkRet ?_
            refine .thenRet ?_
            refine .thenRet ?_
            refine .blkRet ?_
            refine .thenRet ?_
            replace h := resd_ab hK5 (some_eq h)
            replace h := hD3 _ (some_eq h)
            replace h := resb_ab hK2 (some_eq h)
            obtain rfl := some_eq h
            exact Ends.ret1 (.inl rfl) Try.results78 (ResOK.tmp rfl trivial Imp.refl)
          · replace h := bif_f h hb8
            refine .skip ?_
            refine .blkNormal ?_
            exact Ends.join _ (some_eq h) (.cons (t := 0) rfl (.cons (t := 1) rfl (.cons (t := 12) rfl (.cons (t := 13) rfl Sub.nil)))) SubB.nil
        · have h := resd_nx hK5 hj5
          refine .region [] mixed (by kernel_rfl) ?_
          refine .cons (.addW .none (.s rfl) (.int (by decide))) rfl ?_
          refine .cons (.move .none (.s rfl)) rfl ?_
          refine .nil ?_
          exact Ends.againL (some_eq h) (.cons (t := 13) rfl (.cons (t := 0) rfl (.cons (t := 1) rfl (.cons (t := 12) rfl Sub.nil)))) SubB.nil
      · replace h := bif_f h hb4
        refine .exit ?_
        refine .thenExit ?_
        refine .thenExit ?_
        refine .blkExit ?_
        replace h := hD3 _ (some_eq h)
        exact Ends.join _ (some_eq h) Sub.nil SubB.nil
    · have h := resb_nx hK2 hj2
      refine .seq ?_
      refine .region [] mixed (by kernel_rfl) ?_
      refine .cons (.assign .none .bool) rfl ?_
      refine .nil ?_
      refine .then ?_
      refine .ret ?_
      obtain rfl := some_eq h
      exact Ends.ret1 (.inl rfl) Try.results78 (ResOK.tmp rfl trivial Imp.refl)

theorem law_JumpsMatch_1_ok {a1 : (List Int)} {b1 : (List Int)} {r : Bool}  (h : law_JumpsMatch_1 a1 b1 = some r) : FSpec Try.prog 77 [rep a1, rep b1] (rep r) := by
  unfold law_JumpsMatch_1 at h
  refine FSpec.intro (n := 8) fnok77 Try.func77 rfl Try.ntmps77 rfl (fun F => ?_)
  refine .seq ?_
  refine .region [] mixed (by kernel_rfl) ?_
  refine .cons (.assign .none .bool) rfl ?_
  refine .nil ?_
  refine .then ?_
  refine .seq ?_
  refine .region [] mixed (by kernel_rfl) ?_
  refine .cons (.move .none (.s rfl)) rfl ?_
  refine .cons (.move .none (.s rfl)) rfl ?_
  obtain ⟨r1, hv1, h⟩ := bind_some h
  refine .cons (.call .none (slices_Equal_int_ok hv1) (.cons (.s rfl) (.cons (.s rfl) .nil))) rfl ?_
  refine .cons (.assign .none (.s rfl)) rfl ?_
  refine .nil ?_
  refine .then ?_
  refine .ret ?_
  obtain rfl := some_eq h
  exact Ends.ret1 (.inl rfl) Try.results77 (ResOK.tmp rfl trivial Imp.refl)

theorem law_JumpsMatch_ok {l1 : (List (List Point))} {r : Bool}  (h : law_JumpsMatch l1 = some r) : FSpec Try.prog 8 [rep l1] (rep r) := by
  unfold law_JumpsMatch at h
  refine FSpec.intro (n := 54) fnok8 Try.func8 rfl Try.ntmps8 rfl (fun F => ?_)
  refine .seq ?_
  refine .region [] mixed (by kernel_rfl) ?_
  refine .cons (.assign .none .bool) rfl ?_
  refine .nil ?_
  refine .then ?_
  refine .seq ?_
  refine .region [] mixed (by kernel_rfl) ?_
  refine .cons (.move .none (.s rfl)) rfl ?_
  obtain ⟨r1, hv1, h⟩ := bind_some h
  refine .cons (.call .none (geom_Jumps_ok hv1) (.cons (.s rfl) .nil)) rfl ?_
  refine .cons (.move .none (.s rfl)) rfl ?_
  refine .cons (.extract .none (.s rfl) rfl) rfl ?_
  refine .cons (.extract .none (.s rfl) rfl) rfl ?_
  refine .cons (.assign .none (.s rfl)) rfl ?_
  refine .cons (.assign .none (.s rfl)) rfl ?_
  refine .nil ?_
  refine .then ?_
  refine .seq ?_
  refine .region [] mixed (by kernel_rfl) ?_
  refine .cons (.move .none (.s rfl)) rfl ?_
  refine .cons (.len .none sl85 (.s rfl)) rfl ?_
  refine .cons (.gt .none (.s rfl) (.int (by decide))) rfl ?_
  obtain ⟨want1, hv2, h⟩ := bind_some h
  refine .cons (.call .none (ref_When_ok hv2) (.cons (.s rfl) (.cons (.int (by decide)) .nil))) rfl ?_
  refine .cons (.assign .none (.s rfl)) rfl ?_
  refine .nil ?_
  refine .then ?_
  refine .seq ?_
  refine .seq ?_
  refine .region [] mixed (by kernel_rfl) ?_
  refine .cons (.move .none (.s rfl)) rfl ?_
  refine .cons (.len .none sl85 (.s rfl)) rfl ?_
  refine .cons (.move .none (.int (by decide))) rfl ?_
  refine .nil ?_
  refine .then ?_
  obtain ⟨j_3, h, hK3⟩ := bind_some h
  refine .thenJ (ι := Int) (fun j_3 => [(5, ⟨True, rep j_3⟩)]) (fun j_3 => []) (fun s => j_3 = s) (.cons (t := 0) rfl (.cons (t := 3) rfl (.cons (t := 4) rfl Sub.nil))) SubB.nil ?_ (fun j_3' hj3 => ?_)
  · skip
    refine .block ?_
    refine .rforL h (fun p4_ => [(19, ⟨True, rep p4_.1⟩), (5, ⟨True, rep p4_.2⟩)]) (fun p4_ => []) (.cons (t := 19) rfl (.cons (t := 5) rfl Sub.nil)) SubB.nil (.cons (t := 0) rfl (.cons (t := 3) rfl (.cons (t := 4) rfl (.cons (t := 17) rfl (.cons (t := 18) rfl Sub.nil))))) SubB.nil (fun p4_ o_4 h hD4 => ?_)
    refine .seq ?_
    refine .region [] mixed (by kernel_rfl) ?_
    refine .cons (.lt .none (.s rfl) (.s rfl)) rfl ?_
    refine .nil ?_
    refine .then ?_
    refine .seq ?_
    refine .cond (t := 20) rfl trivial (fun hb5 => ?_) (fun hb5 => ?_)
    · replace h := bif_t h hb5
      refine .skip ?_
      refine .then ?_
      refine .seq ?_
      obtain ⟨j_6, h, hK6⟩ := bind_some h
      unfold law_JumpsMatch_L1 at h
      refine .thenJ (ι := Int) (fun j_6 => [(5, ⟨True, rep j_6⟩)]) (fun j_6 => []) (fun s => j_6 = s) (.cons (t := 0) rfl (.cons (t := 3) rfl (.cons (t := 4) rfl (.cons (t := 17) rfl (.cons (t := 18) rfl (.cons (t := 19) rfl Sub.nil)))))) SubB.nil ?_ (fun j_6' hj6 => ?_)
      · skip
        refine .block ?_
        refine .seq ?_
        refine .region [] mixed (by kernel_rfl) ?_
        obtain ⟨hn7, h⟩ := need_some h
        refine .cons (.indexAddr .none sl85 ty66 (.s rfl) (.s rfl) (fun _ => hn7)) rfl ?_
        refine .cons (.load .none ty66 (.s rfl)) rfl ?_
        refine .cons (.assign .none (.s rfl)) rfl ?_
        refine .nil ?_
        refine .then ?_
        refine .region [] mixed (by kernel_rfl) ?_
        refine .cons (.move .none (.s rfl)) rfl ?_
        refine .cons (.move .none (.s rfl)) rfl ?_
        obtain ⟨r2, hv8, h⟩ := bind_some h
        refine .cons (.call .none (ref_PathError_ok hv8) (.cons (.s rfl) .nil)) rfl ?_
        refine .cons (.buildSlice (xs := [_, _]) .none sl94 ty24 hz24 (.cons (.s rfl) (.cons (.s rfl) .nil)) rfl (by decide)) rfl ?_
        obtain ⟨want2, hv9, h⟩ := bind_some h
        refine .cons (.call .none (ref_First_ok hv9) (.cons (.s rfl) .nil)) rfl ?_
        refine .cons (.assign .none (.s rfl)) rfl ?_
        refine .nil ?_
        refine .blkNormal ?_
        exact Ends.join _ (some_eq h) (.cons (t := 5) rfl (.cons (t := 0) rfl (.cons (t := 3) rfl (.cons (t := 4) rfl (.cons (t := 17) rfl (.cons (t := 18) rfl (.cons (t := 19) rfl Sub.nil))))))) SubB.nil
      · subst hj6; have h := hK6; clear hK6
        refine .region [] mixed (by kernel_rfl) ?_
        refine .cons (.addW .none (.s rfl) (.int (by decide))) rfl ?_
        refine .cons (.move .none (.s rfl)) rfl ?_
        refine .nil ?_
        exact Ends.againL (some_eq h) (.cons (t := 19) rfl (.cons (t := 5) rfl (.cons (t := 0) rfl (.cons (t := 3) rfl (.cons (t := 4) rfl (.cons (t := 17) rfl (.cons (t := 18) rfl Sub.nil))))))) SubB.nil
    · replace h := bif_f h hb5
      refine .exit ?_
      refine .thenExit ?_
      refine .thenExit ?_
      refine .blkExit ?_
      replace h := hD4 _ (some_eq h)
      exact Ends.join _ (some_eq h) (.cons (t := 5) rfl (.cons (t := 0) rfl (.cons (t := 3) rfl (.cons (t := 4) rfl Sub.nil)))) SubB.nil
  · subst hj3; have h := hK3; clear hK3
    refine .seq ?_
    refine .seq ?_
    refine .region [] mixed (by kernel_rfl) ?_
    obtain ⟨r3, hv10, h⟩ := bind_some h
    refine .cons (.call .none (law_geoms_ok hv10) .nil) rfl ?_
    refine .cons (.not .none (.s rfl)) rfl ?_
    refine .cons (.move .none (.s rfl)) rfl ?_
    refine .cons (.move (.at rfl rfl) (.s rfl)) rfl ?_
    refine .cons (.neI (.at rfl rfl) (.tmp rfl id) (.int (by decide))) rfl ?_
    refine .cons (.pickOr .none (.s rfl) (.tmp rfl id)) rfl ?_
    refine .nil ?_
    refine .then ?_
    refine .cond (t := 34) rfl trivial (fun hb11 => ?_) (fun hb11 => ?_)
    · replace h := bif_t h hb11
      refine .seq ?_
      refine .region [] mixed (by kernel_rfl) ?_
      obtain ⟨r4, hv12, h⟩ := bind_some h
      refine .cons (.call .none (law_geoms_ok hv12) .nil) rfl ?_
      refine .cons (.move .none (.s rfl)) rfl ?_
      refine .cons (.move (.at rfl rfl) (.s rfl)) rfl ?_
      refine .cons (.len (.at rfl rfl) sl86 (.tmp rfl id)) rfl ?_
      refine .cons (.eqI (.at rfl rfl) (.tmp rfl id) (.int (by decide))) rfl ?_
      refine .cons (.pickAnd .none (.s rfl) (.tmp rfl id)) rfl ?_
      refine .cons (.move .none (.s rfl)) rfl ?_
      refine .cons (.move (.at rfl rfl) (.s rfl)) rfl ?_
      refine .cons (.move (.at rfl rfl) (.s rfl)) rfl ?_
      refine .cons (.eqI (.at rfl rfl) (.tmp rfl id) (.tmp rfl id)) rfl ?_
      refine .cons (.pickAnd .none (.s rfl) (.tmp rfl id)) rfl ?_
      refine .cons (.assign .none (.s rfl)) rfl ?_
      refine .nil ?_
      refine .then ?_
      refine .ret ?_
      refine .thenRet ?_
      obtain rfl := some_eq h
      exact Ends.ret1 (.inl rfl) Try.results8 (ResOK.tmp rfl trivial Imp.refl)
    · replace h := bif_f h hb11
      refine .skip ?_
      refine .then ?_
      refine .seq ?_
      refine .region [] mixed (by kernel_rfl) ?_
      refine .cons (.move .none (.s rfl)) rfl ?_
      refine .cons (.eqI .none (.s rfl) (.int (by decide))) rfl ?_
      refine .cons (.move .none (.s rfl)) rfl ?_
      refine .cons (.move (.at rfl rfl) (.s rfl)) rfl ?_
      refine .cons (.move (.at rfl rfl) (.s rfl)) rfl ?_
      obtain ⟨r5, hv13, h⟩ := bind_some h
      refine .cons (.callIf (.at rfl rfl) fnok76 (fun hg => ref_JumpsOf_ok ((fun hg => gd_some hv13 (hg.2)) hg)) (.cons (.tmp rfl id) .nil) (fun h => h)) rfl ?_
      obtain ⟨r6, hv14, h⟩ := bind_some h
      refine .cons (.callIf (.at rfl rfl) fnok75 (fun hg => slices_EqualFunc_Lint_ok ((fun hg => gd_some hv14 (hg.2)) hg)) (.cons (.tmp rfl id) (.cons (.tmp rfl id) (.cons (Opd.func (ι := (List Int) × (List Int) × Bool) (pre := fun i => law_JumpsMatch_1 i.1 i.2.1 = some i.2.2) (Ss := fun i => [rep i.1, rep i.2.1]) (S := fun i => rep i.2.2) fnok77 (fun i h => law_JumpsMatch_1_ok h)) .nil))) (fun h => h)) rfl ?_
      refine .cons (.pickAnd .none (.s rfl) (.tmp rfl id)) rfl ?_
      refine .cons (.assign .none (.s rfl)) rfl ?_
      refine .nil ?_
      refine .then ?_
      refine .ret ?_
      obtain rfl := some_eq h
      exact Ends.ret1 (.inl rfl) Try.results8 (ResOK.tmp rfl trivial Imp.refl)


end Go.Proofs.Ytieepiblancbpaa
