/-
  A move and the move back, a group and its end lead to the same diagram, and what is not selected stays.
-/
import Derived.Test.YtclcheggnlhamaaGreatDoorMGBWa2
import Derived.Test.YtclcheggnlhamaaGreatDoorLawDoor
import Derived.Test.YtclcheggnlhamaaGreatDoorMGBPuBack
import Derived.Test.YtclcheggnlhamaaGreatDoorCards
import Derived.Test.YtclcheggnlhamaaGreatDoorTie
namespace Go.Proofs.YtclcheggnlhamaaGreatDoor
open Go Go.DB Go.RowKit Go.ChangeShapes Go.WideShapes Go.ChangeAt
set_option maxRecDepth 100000
set_option linter.unusedSimpArgs false
set_option linter.unusedVariables false

theorem Tryz.own : ownKnob Tryz.prog.godebug = none := by kernel_rfl
theorem Tryz.laidOut : laidOutB Tryz.prog = true := by kernel_rfl

theorem rd9 : Reads Tryz.prog 9 Str := reads_str Tryz.underlying9
theorem ar9 : ArgOK Tryz.prog 9 Str := arg_str Tryz.underlying9
theorem rd3 : Reads Tryz.prog 3 Int := reads_int Tryz.underlying3
theorem ar3 : ArgOK Tryz.prog 3 Int := arg_int Tryz.underlying3
theorem rd29 : Reads Tryz.prog 29 Box := reads_struct Tryz.underlying29 (.cons rfl (by kernel_rfl) rd3 (.cons rfl (by kernel_rfl) rd3 (.cons rfl (by kernel_rfl) rd3 (.one rfl (by kernel_rfl) rd3)))) (by kernel_rfl) (fun b => ⟨⟨b.1, b.2.1, b.2.2.1, b.2.2.2⟩, rfl⟩)
theorem ar29 : ArgOK Tryz.prog 29 Box := arg_struct Tryz.underlying29 rd29 rfl
theorem rd4 : Reads Tryz.prog 4 Bool := reads_bool Tryz.underlying4
theorem ar4 : ArgOK Tryz.prog 4 Bool := arg_bool Tryz.underlying4
theorem rd44 : Reads Tryz.prog 44 DNode := reads_struct Tryz.underlying44 (.cons rfl (by kernel_rfl) rd9 (.cons rfl (by kernel_rfl) rd3 (.cons rfl (by kernel_rfl) rd29 (.cons rfl (by kernel_rfl) rd9 (.cons rfl (by kernel_rfl) rd9 (.cons rfl (by kernel_rfl) rd9 (.one rfl (by kernel_rfl) rd4))))))) (by kernel_rfl) (fun b => ⟨⟨b.1, b.2.1, b.2.2.1, b.2.2.2.1, b.2.2.2.2.1, b.2.2.2.2.2.1, b.2.2.2.2.2.2⟩, rfl⟩)
theorem ar44 : ArgOK Tryz.prog 44 DNode := arg_struct Tryz.underlying44 rd44 rfl
theorem rd22 : Reads Tryz.prog 22 (List DNode) := reads_slice Tryz.underlying22 rd44 (by kernel_rfl)
theorem ar22 : ArgOK Tryz.prog 22 (List DNode) := arg_slice Tryz.underlying22 rd22
theorem rd65 : Reads Tryz.prog 65 DEnd := reads_struct Tryz.underlying65 (.cons rfl (by kernel_rfl) rd9 (.cons rfl (by kernel_rfl) rd3 (.one rfl (by kernel_rfl) rd3))) (by kernel_rfl) (fun b => ⟨⟨b.1, b.2.1, b.2.2⟩, rfl⟩)
theorem ar65 : ArgOK Tryz.prog 65 DEnd := arg_struct Tryz.underlying65 rd65 rfl
theorem rd27 : Reads Tryz.prog 27 Point := reads_struct Tryz.underlying27 (.cons rfl (by kernel_rfl) rd3 (.one rfl (by kernel_rfl) rd3)) (by kernel_rfl) (fun b => ⟨⟨b.1, b.2⟩, rfl⟩)
theorem ar27 : ArgOK Tryz.prog 27 Point := arg_struct Tryz.underlying27 rd27 rfl
theorem rd59 : Reads Tryz.prog 59 (List Point) := reads_slice Tryz.underlying59 rd27 (by kernel_rfl)
theorem ar59 : ArgOK Tryz.prog 59 (List Point) := arg_slice Tryz.underlying59 rd59
theorem rd67 : Reads Tryz.prog 67 DEdge := reads_struct Tryz.underlying67 (.cons rfl (by kernel_rfl) rd9 (.cons rfl (by kernel_rfl) rd65 (.cons rfl (by kernel_rfl) rd65 (.cons rfl (by kernel_rfl) rd59 (.cons rfl (by kernel_rfl) rd9 (.one rfl (by kernel_rfl) rd9)))))) (by kernel_rfl) (fun b => ⟨⟨b.1, b.2.1, b.2.2.1, b.2.2.2.1, b.2.2.2.2.1, b.2.2.2.2.2⟩, rfl⟩)
theorem ar67 : ArgOK Tryz.prog 67 DEdge := arg_struct Tryz.underlying67 rd67 rfl
theorem rd23 : Reads Tryz.prog 23 (List DEdge) := reads_slice Tryz.underlying23 rd67 (by kernel_rfl)
theorem ar23 : ArgOK Tryz.prog 23 (List DEdge) := arg_slice Tryz.underlying23 rd23
theorem rd25 : Reads Tryz.prog 25 Doc := reads_struct Tryz.underlying25 (.cons rfl (by kernel_rfl) rd22 (.one rfl (by kernel_rfl) rd23)) (by kernel_rfl) (fun b => ⟨⟨b.1, b.2⟩, rfl⟩)
theorem ar25 : ArgOK Tryz.prog 25 Doc := arg_struct Tryz.underlying25 rd25 rfl
theorem rd39 : Reads Tryz.prog 39 (List Str) := reads_slice Tryz.underlying39 rd9 (by kernel_rfl)
theorem ar39 : ArgOK Tryz.prog 39 (List Str) := arg_slice Tryz.underlying39 rd39

theorem MovesGoBack_calls (H : Type) (enc : TypeId × Value → H) (W : World) (base : Nat) (args : Array Value) (ds : List (DataW H)) (ps : List MemPlace) (hlow : Low NoM W)
    (hval : ∀ (j : Nat) t v, Tryz.f6.params[j]? = some t → args[j]? = some v → Value.okWide Tryz.prog W .any base t v)
    (hA : DataW.TrodAll enc Tryz.prog W 0 (fun _ => true) true Tryz.f6.params.toList args.toList ds ps) : Gives Tryz.prog 6 args.toList NoM W (rep true) := by
  rw [Tryz.params6] at hA hval
  obtain ⟨v0, vs0, d0, ds0, p0, q0, ha0, rfl, rfl, h0, r0⟩ := trodAll_cons hA
  obtain ⟨v1, vs1, d1, ds1, p1, q1, rfl, rfl, rfl, h1, r1⟩ := trodAll_cons r0
  obtain ⟨v2, vs2, d2, ds2, p2, q2, rfl, rfl, rfl, h2, r2⟩ := trodAll_cons r1
  obtain ⟨v3, vs3, d3, ds3, p3, q3, rfl, rfl, rfl, h3, r3⟩ := trodAll_cons r2
  obtain ⟨v4, vs4, d4, ds4, p4, q4, rfl, rfl, rfl, h4, r4⟩ := trodAll_cons r3
  obtain ⟨v5, vs5, d5, ds5, p5, q5, rfl, rfl, rfl, h5, r5⟩ := trodAll_cons r4
  obtain ⟨rfl, rfl, rfl⟩ := trodAll_nil r5
  obtain ⟨x0, k0⟩ := ar25 H enc W base v0 d0 p0 (hval 0 25 v0 rfl (by rw [← Array.getElem?_toList, ha0]; rfl)) h0
  obtain ⟨x1, k1⟩ := ar39 H enc W base v1 d1 p1 (hval 1 39 v1 rfl (by rw [← Array.getElem?_toList, ha0]; rfl)) h1
  obtain ⟨x2, k2⟩ := ar3 H enc W base v2 d2 p2 (hval 2 3 v2 rfl (by rw [← Array.getElem?_toList, ha0]; rfl)) h2
  obtain ⟨x3, k3⟩ := ar3 H enc W base v3 d3 p3 (hval 3 3 v3 rfl (by rw [← Array.getElem?_toList, ha0]; rfl)) h3
  obtain ⟨x4, k4⟩ := ar3 H enc W base v4 d4 p4 (hval 4 3 v4 rfl (by rw [← Array.getElem?_toList, ha0]; rfl)) h4
  obtain ⟨x5, k5⟩ := ar9 H enc W base v5 d5 p5 (hval 5 9 v5 rfl (by rw [← Array.getElem?_toList, ha0]; rfl)) h5
  rw [ha0]
  exact (law_MovesGoBack_ok (MovesGoBack_true x0 x1 x2 x3 x4 x5 (rep_fits k0) (rep_fits k1) (rep_fits k5))).calls NoM W _ hlow ⟨k0, k1, k2, k3, k4, k5, trivial⟩

theorem MovesGoBack_lifted (os : Os) (started : os.Started) (H : Type) (enc : TypeId × Value → H) :
    ReturnsInHanded {} Tryz.checked os 6 .any (fun w args => (Rows.movesGoBackSpec.pre enc Tryz.prog Tryz.f6 Rows.movesGoBackRow.domain false w args ∧ laidMetH Tryz.prog Rows.movesGoBackRow.laid w) ∧ sizedMet enc Tryz.prog Tryz.f6 (OpenSpec.ofChange Rows.movesGoBackSpec) false w args) (Rows.movesGoBackSpec.post enc Tryz.prog Tryz.f6 false true false false) := by
  refine returns_laid (C := Tryz.checked) (X := fun w _ => laidMetH Tryz.prog Rows.movesGoBackRow.laid w) (fun _ _ _ hh h => h.of_heap hh) Tryz.own started (by kernel_rfl) Tryz.func6
    (ChangeSpec.witness_shaped (enc := enc) (C := Tryz.checked) (os := os) (X := fun w _ => laidMetH Tryz.prog Rows.movesGoBackRow.laid w) false (World.laidAll Tryz.prog os Rows.movesGoBackRow.laid) #[.agg #[.slice none 0 0, .slice none 0 0], .slice none 0 0, .int .i64 0, .int .i64 0, .int .i64 0, .string ByteArray.empty] 8 (World.laidAll_os _ _ _)
      (World.shaped_of_ZipB (by kernel_rfl) (by kernel_rfl)) (by kernel_rfl) (by kernel_rfl) (by kernel_rfl)
      (by rw [MakeChecks.laidMetH_plain _ _ _ (by kernel_rfl)]; exact laidMet_laidAll _ (by kernel_rfl) (by kernel_rfl))) ?_
  intro W base args ds gs before hval hW hL hsh
  have hl : laidMet Tryz.prog Rows.movesGoBackRow.laid W := laidMet_plain hL (by kernel_rfl)
  have e1 : (Rows.laid_unicode_utf8_first : DataW Unit) = Go.Lib.firstData := by kernel_rfl
  have e2 : (Rows.laid_unicode_utf8_acceptRanges : DataW Unit) = Go.Lib.acceptData := by kernel_rfl
  have ht : Go.Lib.Utf8Tabs gFirst gAcc W := Proofs.utf8Tabs_of_readsT (Proofs.U8Types.of196 validStr_lay) ⟨by kernel_rfl, by kernel_rfl, by kernel_rfl, by kernel_rfl, by kernel_rfl, by kernel_rfl, by kernel_rfl⟩ (e1 ▸ Go.Lib.laidMet.reads hl (.tail _ (.head _))) (e2 ▸ Go.Lib.laidMet.reads hl (.head _))
  have hx : ∃ m, W.cell? ⟨gMax, 0, none⟩ = some (.int .i64 m) := Proofs.cell_of_shapedOpen_int (t := 3) (zero := #[.int .i64 0]) hsh (of_decide_eq_true (by kernel_rfl)) (by kernel_rfl) rfl (by kernel_rfl) (by kernel_rfl) Tryz.underlying3
  have hr : Tryz.f6.params.toList.all (fun t => Tryz.prog.readableRec t && decide (t < Tryz.prog.types.size)) = true := by kernel_rfl
  refine law_post (P := Tryz.prog) (B := 4) (s := Rows.movesGoBackSpec) rfl (by kernel_rfl) Tryz.underlying4 Tryz.laidOut (fun t ht => by have := List.all_eq_true.1 hr t ht; simpa using this) ?_ MovesGoBack_calls H enc W base args ds gs before (Low.start (fun k h => h) ht hx) hval hW
  intro H ds hd
  rw [Tryz.params6] at hd
  match ds, hd with
  | [e0, e1, e2, e3, e4, e5], _ => rfl

theorem MovesGoBack_holds : Rows.MovesGoBackSaid :=
  OpenClaim.holds_of_wide 6 Tryz.f6 rfl rfl rfl rfl rfl rfl rfl ⟨rfl, rfl, rfl, rfl, rfl⟩ rfl rfl rfl rfl rfl (by kernel_rfl) Tryz.func6 (by kernel_rfl)
    (of_decide_eq_true (by kernel_rfl)) (by unfold Func.isWrapper; rw [if_neg (of_decide_eq_false (by kernel_rfl))]; exact ⟨rfl, rfl⟩)
    (fun os started H enc _ => MovesGoBack_lifted os started H enc)

theorem MovesGoBack_card : Rows.MovesGoBackCardSaid :=
  Claim7.holds_tied_plain_at .later [] [.data, .pinned] true (true, "b76923a91c5dfd2d0dca9d563ea8b314a2b067cf4cf568577f3debac49879b63") false MovesGoBack_holds (fun _ h => by cases h) (by kernel_rfl) (fun _ h => by cases h) movesGoBack_row_tie rfl ⟨rfl, rfl⟩ (by kernel_rfl) rfl
    (fun f fn hf hfn => by
      obtain rfl : f = 6 := Option.some.inj ((show Tryz.prog.funcNamed "drawboard/drawlaw1.MovesGoBack" = some 6 by kernel_rfl).symm.trans hf) |>.symm
      obtain rfl : fn = Tryz.f6 := (Option.some.inj (Tryz.func6.symm.trans hfn)).symm
      exact ⟨by kernel_rfl, fun j t ht => by
        rw [Tryz.params6] at ht
        have hm : t ∈ [25, 39, 3, 3, 3, 9] := by simpa using Array.mem_of_getElem? ht
        have hall : ([25, 39, 3, 3, 3, 9].all fun u => !Tryz.prog.wantsStandIn u) = true := by kernel_rfl
        exact (show Tryz.prog.wantsStandIn t = false by simpa using List.all_eq_true.1 hall t hm)⟩)
    (by kernel_rfl)

end Go.Proofs.YtclcheggnlhamaaGreatDoor
