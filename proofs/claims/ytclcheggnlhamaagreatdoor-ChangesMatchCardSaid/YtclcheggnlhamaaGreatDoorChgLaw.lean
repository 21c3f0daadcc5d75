/-
  Diagrams that are changed: the program's way and the document's give the same.
-/
import Derived.Test.YtclcheggnlhamaaGreatDoorChgWa3
import Derived.Test.YtclcheggnlhamaaGreatDoorLawDoor
import Derived.Test.YtclcheggnlhamaaGreatDoorChgPuChg
import Derived.Test.YtclcheggnlhamaaGreatDoorCards
import Derived.Test.YtclcheggnlhamaaGreatDoorTie
namespace Go.Proofs.YtclcheggnlhamaaGreatDoor
open Go Go.DB Go.RowKit Go.ChangeShapes Go.WideShapes Go.ChangeAt
set_option maxRecDepth 100000
set_option linter.unusedSimpArgs false
set_option linter.unusedVariables false

theorem Tryz.own : ownKnob Tryz.prog.godebug = none := by kernel_rfl
theorem Tryz.laidOut : laidOutB Tryz.prog = true := by kernel_rfl

theorem rd9 : Reads Tryz.prog 9 Str := reads_str Tryz.underlying9
theorem ar9 : ArgOK Tryz.prog 9 Str := arg_str Tryz.underlying9
theorem rd3 : Reads Tryz.prog 3 Int := reads_int Tryz.underlying3
theorem ar3 : ArgOK Tryz.prog 3 Int := arg_int Tryz.underlying3
theorem rd29 : Reads Tryz.prog 29 Box := reads_struct Tryz.underlying29 (.cons rfl (by kernel_rfl) rd3 (.cons rfl (by kernel_rfl) rd3 (.cons rfl (by kernel_rfl) rd3 (.one rfl (by kernel_rfl) rd3)))) (by kernel_rfl) (fun b => ⟨⟨b.1, b.2.1, b.2.2.1, b.2.2.2⟩, rfl⟩)
theorem ar29 : ArgOK Tryz.prog 29 Box := arg_struct Tryz.underlying29 rd29 rfl
theorem rd4 : Reads Tryz.prog 4 Bool := reads_bool Tryz.underlying4
theorem ar4 : ArgOK Tryz.prog 4 Bool := arg_bool Tryz.underlying4
theorem rd44 : Reads Tryz.prog 44 DNode := reads_struct Tryz.underlying44 (.cons rfl (by kernel_rfl) rd9 (.cons rfl (by kernel_rfl) rd3 (.cons rfl (by kernel_rfl) rd29 (.cons rfl (by kernel_rfl) rd9 (.cons rfl (by kernel_rfl) rd9 (.cons rfl (by kernel_rfl) rd9 (.one rfl (by kernel_rfl) rd4))))))) (by kernel_rfl) (fun b => ⟨⟨b.1, b.2.1, b.2.2.1, b.2.2.2.1, b.2.2.2.2.1, b.2.2.2.2.2.1, b.2.2.2.2.2.2⟩, rfl⟩)
theorem ar44 : ArgOK Tryz.prog 44 DNode := arg_struct Tryz.underlying44 rd44 rfl
theorem rd22 : Reads Tryz.prog 22 (List DNode) := reads_slice Tryz.underlying22 rd44 (by kernel_rfl)
theorem ar22 : ArgOK Tryz.prog 22 (List DNode) := arg_slice Tryz.underlying22 rd22
theorem rd65 : Reads Tryz.prog 65 DEnd := reads_struct Tryz.underlying65 (.cons rfl (by kernel_rfl) rd9 (.cons rfl (by kernel_rfl) rd3 (.one rfl (by kernel_rfl) rd3))) (by kernel_rfl) (fun b => ⟨⟨b.1, b.2.1, b.2.2⟩, rfl⟩)
theorem ar65 : ArgOK Tryz.prog 65 DEnd := arg_struct Tryz.underlying65 rd65 rfl
theorem rd27 : Reads Tryz.prog 27 Point := reads_struct Tryz.underlying27 (.cons rfl (by kernel_rfl) rd3 (.one rfl (by kernel_rfl) rd3)) (by kernel_rfl) (fun b => ⟨⟨b.1, b.2⟩, rfl⟩)
theorem ar27 : ArgOK Tryz.prog 27 Point := arg_struct Tryz.underlying27 rd27 rfl
theorem rd59 : Reads Tryz.prog 59 (List Point) := reads_slice Tryz.underlying59 rd27 (by kernel_rfl)
theorem ar59 : ArgOK Tryz.prog 59 (List Point) := arg_slice Tryz.underlying59 rd59
theorem rd67 : Reads Tryz.prog 67 DEdge := reads_struct Tryz.underlying67 (.cons rfl (by kernel_rfl) rd9 (.cons rfl (by kernel_rfl) rd65 (.cons rfl (by kernel_rfl) rd65 (.cons rfl (by kernel_rfl) rd59 (.cons rfl (by kernel_rfl) rd9 (.one rfl (by kernel_rfl) rd9)))))) (by kernel_rfl) (fun b => ⟨⟨b.1, b.2.1, b.2.2.1, b.2.2.2.1, b.2.2.2.2.1, b.2.2.2.2.2⟩, rfl⟩)
theorem ar67 : ArgOK Tryz.prog 67 DEdge := arg_struct Tryz.underlying67 rd67 rfl
theorem rd23 : Reads Tryz.prog 23 (List DEdge) := reads_slice Tryz.underlying23 rd67 (by kernel_rfl)
theorem ar23 : ArgOK Tryz.prog 23 (List DEdge) := arg_slice Tryz.underlying23 rd23
theorem rd25 : Reads Tryz.prog 25 Doc := reads_struct Tryz.underlying25 (.cons rfl (by kernel_rfl) rd22 (.one rfl (by kernel_rfl) rd23)) (by kernel_rfl) (fun b => ⟨⟨b.1, b.2⟩, rfl⟩)
theorem ar25 : ArgOK Tryz.prog 25 Doc := arg_struct Tryz.underlying25 rd25 rfl
theorem rd39 : Reads Tryz.prog 39 (List Str) := reads_slice Tryz.underlying39 rd9 (by kernel_rfl)
theorem ar39 : ArgOK Tryz.prog 39 (List Str) := arg_slice Tryz.underlying39 rd39

theorem ChangesMatch_calls (H : Type) (enc : TypeId × Value → H) (W : World) (base : Nat) (args : Array Value) (ds : List (DataW H)) (ps : List MemPlace) (hlow : Low NoM W)
    (hval : ∀ (j : Nat) t v, Tryz.f4.params[j]? = some t → args[j]? = some v → Value.okWide Tryz.prog W .any base t v)
    (hA : DataW.TrodAll enc Tryz.prog W 0 (fun _ => true) true Tryz.f4.params.toList args.toList ds ps)
    (hz : ∃ vt gs, (DataW.weightsEach Tryz.prog (Tryz.f4.params.toList ++ vt) (ds ++ gs)).all (· ≤ reachBytes) = true) : Gives Tryz.prog 4 args.toList NoM W (rep true) := by
  obtain ⟨vt, gs, hz⟩ := hz
  rw [Tryz.params4] at hA hval hz
  obtain ⟨v0, vs0, d0, ds0, p0, q0, ha0, rfl, rfl, h0, r0⟩ := trodAll_cons hA
  obtain ⟨v1, vs1, d1, ds1, p1, q1, rfl, rfl, rfl, h1, r1⟩ := trodAll_cons r0
  obtain ⟨v2, vs2, d2, ds2, p2, q2, rfl, rfl, rfl, h2, r2⟩ := trodAll_cons r1
  obtain ⟨v3, vs3, d3, ds3, p3, q3, rfl, rfl, rfl, h3, r3⟩ := trodAll_cons r2
  obtain ⟨v4, vs4, d4, ds4, p4, q4, rfl, rfl, rfl, h4, r4⟩ := trodAll_cons r3
  obtain ⟨v5, vs5, d5, ds5, p5, q5, rfl, rfl, rfl, h5, r5⟩ := trodAll_cons r4
  obtain ⟨v6, vs6, d6, ds6, p6, q6, rfl, rfl, rfl, h6, r6⟩ := trodAll_cons r5
  obtain ⟨rfl, rfl, rfl⟩ := trodAll_nil r6
  obtain ⟨x0, k0⟩ := ar25 H enc W base v0 d0 p0 (hval 0 25 v0 rfl (by rw [← Array.getElem?_toList, ha0]; rfl)) h0
  obtain ⟨x1, k1⟩ := ar39 H enc W base v1 d1 p1 (hval 1 39 v1 rfl (by rw [← Array.getElem?_toList, ha0]; rfl)) h1
  obtain ⟨x2, k2⟩ := ar9 H enc W base v2 d2 p2 (hval 2 9 v2 rfl (by rw [← Array.getElem?_toList, ha0]; rfl)) h2
  obtain ⟨x3, k3⟩ := ar4 H enc W base v3 d3 p3 (hval 3 4 v3 rfl (by rw [← Array.getElem?_toList, ha0]; rfl)) h3
  obtain ⟨x4, k4, z4⟩ := arg_strZ Tryz.underlying9 (hval 4 9 v4 rfl (by rw [← Array.getElem?_toList, ha0]; rfl)) h4
  have hs4 : short x4 := Nat.le_trans (sized_string hz (j := 4) (t := 9) rfl (by rw [z4]; rfl)) (by decide)
  obtain ⟨x5, k5⟩ := ar3 H enc W base v5 d5 p5 (hval 5 3 v5 rfl (by rw [← Array.getElem?_toList, ha0]; rfl)) h5
  obtain ⟨x6, k6⟩ := ar3 H enc W base v6 d6 p6 (hval 6 3 v6 rfl (by rw [← Array.getElem?_toList, ha0]; rfl)) h6
  rw [ha0]
  exact (law_ChangesMatch_ok (ChangesMatch_true x0 x1 x2 x3 x4 x5 x6 (rep_fits k0) (rep_fits k1) (rep_fits k2) hs4)).calls NoM W _ hlow ⟨k0, k1, k2, k3, k4, k5, k6, trivial⟩

theorem ChangesMatch_lifted (os : Os) (started : os.Started) (H : Type) (enc : TypeId × Value → H) :
    ReturnsInHanded {} Tryz.checked os 4 .any (fun w args => (Rows.changesMatchSpec.pre enc Tryz.prog Tryz.f4 Rows.changesMatchRow.domain false w args ∧ laidMetH Tryz.prog Rows.changesMatchRow.laid w) ∧ sizedMet enc Tryz.prog Tryz.f4 (OpenSpec.ofChange Rows.changesMatchSpec) false w args) (Rows.changesMatchSpec.post enc Tryz.prog Tryz.f4 false true false false) := by
  refine returns_laidZ (C := Tryz.checked) (X := fun w _ => laidMetH Tryz.prog Rows.changesMatchRow.laid w) (fun _ _ _ hh h => h.of_heap hh) Tryz.own started (by kernel_rfl) Tryz.func4
    (ChangeSpec.witness_shaped (enc := enc) (C := Tryz.checked) (os := os) (X := fun w _ => laidMetH Tryz.prog Rows.changesMatchRow.laid w) false (World.laidAll Tryz.prog os Rows.changesMatchRow.laid) #[.agg #[.slice none 0 0, .slice none 0 0], .slice none 0 0, .string ByteArray.empty, .bool false, .string ByteArray.empty, .int .i64 0, .int .i64 0] 8 (World.laidAll_os _ _ _)
      (World.shaped_of_ZipB (by kernel_rfl) (by kernel_rfl)) (by kernel_rfl) (by kernel_rfl) (by kernel_rfl)
      (by rw [MakeChecks.laidMetH_plain _ _ _ (by kernel_rfl)]; exact laidMet_laidAll _ (by kernel_rfl) (by kernel_rfl))) ?_
  intro W base args ds gs before hval hW hL hsh hz
  have hl : laidMet Tryz.prog Rows.changesMatchRow.laid W := laidMet_plain hL (by kernel_rfl)
  have e1 : (Rows.laid_unicode_utf8_first : DataW Unit) = Go.Lib.firstData := by kernel_rfl
  have e2 : (Rows.laid_unicode_utf8_acceptRanges : DataW Unit) = Go.Lib.acceptData := by kernel_rfl
  have ht : Go.Lib.Utf8Tabs gFirst gAcc W := Proofs.utf8Tabs_of_readsT (Proofs.U8Types.of196 validStr_lay) ⟨by kernel_rfl, by kernel_rfl, by kernel_rfl, by kernel_rfl, by kernel_rfl, by kernel_rfl, by kernel_rfl⟩ (e1 ▸ Go.Lib.laidMet.reads hl (.tail _ (.head _))) (e2 ▸ Go.Lib.laidMet.reads hl (.head _))
  have hx : ∃ m, W.cell? ⟨gMax, 0, none⟩ = some (.int .i64 m) := Proofs.cell_of_shapedOpen_int (t := 3) (zero := #[.int .i64 0]) hsh (of_decide_eq_true (by kernel_rfl)) (by kernel_rfl) rfl (by kernel_rfl) (by kernel_rfl) Tryz.underlying3
  have hr : Tryz.f4.params.toList.all (fun t => Tryz.prog.readableRec t && decide (t < Tryz.prog.types.size)) = true := by kernel_rfl
  refine law_postZ (Z := fun H ds => ∃ vt gs, (DataW.weightsEach Tryz.prog (Tryz.f4.params.toList ++ vt) (ds ++ gs)).all (· ≤ reachBytes) = true) (P := Tryz.prog) (B := 4) (s := Rows.changesMatchSpec) rfl (by kernel_rfl) Tryz.underlying4 Tryz.laidOut (fun t ht => by have := List.all_eq_true.1 hr t ht; simpa using this) ?_ ChangesMatch_calls H enc W base args ds gs before (Low.start (fun k h => h) ht hx) hval hW ⟨_, _, hz⟩
  intro H ds hd
  rw [Tryz.params4] at hd
  match ds, hd with
  | [e0, e1, e2, e3, e4, e5, e6], _ => rfl

theorem ChangesMatch_holds : Rows.ChangesMatchSaid :=
  OpenClaim.holds_of_wide 4 Tryz.f4 rfl rfl rfl rfl rfl rfl rfl ⟨rfl, rfl, rfl, rfl, rfl⟩ rfl rfl rfl rfl rfl (by kernel_rfl) Tryz.func4 (by kernel_rfl)
    (of_decide_eq_true (by kernel_rfl)) (by unfold Func.isWrapper; rw [if_neg (of_decide_eq_false (by kernel_rfl))]; exact ⟨rfl, rfl⟩)
    (fun os started H enc _ => ChangesMatch_lifted os started H enc)

theorem ChangesMatch_card : Rows.ChangesMatchCardSaid :=
  Claim7.holds_tied_plain_at .later [] [.data, .pinned] true (true, "b76923a91c5dfd2d0dca9d563ea8b314a2b067cf4cf568577f3debac49879b63") false ChangesMatch_holds (fun _ h => by cases h) (by kernel_rfl) (fun _ h => by cases h) changesMatch_row_tie rfl ⟨rfl, rfl⟩ (by kernel_rfl) rfl
    (fun f fn hf hfn => by
      obtain rfl : f = 4 := Option.some.inj ((show Tryz.prog.funcNamed "drawboard/drawlaw1.ChangesMatch" = some 4 by kernel_rfl).symm.trans hf) |>.symm
      obtain rfl : fn = Tryz.f4 := (Option.some.inj (Tryz.func4.symm.trans hfn)).symm
      exact ⟨by kernel_rfl, fun j t ht => by
        rw [Tryz.params4] at ht
        have hm : t ∈ [25, 39, 9, 4, 9, 3, 3] := by simpa using Array.mem_of_getElem? ht
        have hall : ([25, 39, 9, 4, 9, 3, 3].all fun u => !Tryz.prog.wantsStandIn u) = true := by kernel_rfl
        exact (show Tryz.prog.wantsStandIn t = false by simpa using List.all_eq_true.1 hall t hm)⟩)
    (by kernel_rfl)

end Go.Proofs.YtclcheggnlhamaaGreatDoor
