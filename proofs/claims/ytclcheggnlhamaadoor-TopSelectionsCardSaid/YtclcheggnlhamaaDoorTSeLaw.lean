/-
  TopSelections: what is aligned is in line, and what is spread has equal gaps but for 1, for every diagram, selection and numbers.
-/
import Derived.Test.YtclcheggnlhamaaDoorTSeWa3
import Derived.Test.YtclcheggnlhamaaDoorLawDoor
import Derived.Test.YtclcheggnlhamaaDoorTSePuTopSel
import Derived.Test.YtclcheggnlhamaaDoorCards
import Derived.Test.YtclcheggnlhamaaDoorTie
namespace Go.Proofs.YtclcheggnlhamaaDoor
open Go Go.DB Go.RowKit Go.ChangeShapes Go.WideShapes Go.ChangeAt
set_option maxRecDepth 100000
set_option linter.unusedSimpArgs false
set_option linter.unusedVariables false
theorem Tryd.own : ownKnob Tryd.prog.godebug = none := by kernel_rfl
theorem Tryd.laidOut : laidOutB Tryd.prog = true := by kernel_rfl
theorem rd9 : Reads Tryd.prog 9 Str := reads_str Tryd.underlying9
theorem ar9 : ArgOK Tryd.prog 9 Str := arg_str Tryd.underlying9
theorem rd3 : Reads Tryd.prog 3 Int := reads_int Tryd.underlying3
theorem ar3 : ArgOK Tryd.prog 3 Int := arg_int Tryd.underlying3
theorem rd41 : Reads Tryd.prog 41 Box := reads_struct Tryd.underlying41 (.cons rfl (by kernel_rfl) rd3 (.cons rfl (by kernel_rfl) rd3 (.cons rfl (by kernel_rfl) rd3 (.one rfl (by kernel_rfl) rd3)))) (by kernel_rfl) (fun b => ⟨⟨b.1, b.2.1, b.2.2.1, b.2.2.2⟩, rfl⟩)
theorem ar41 : ArgOK Tryd.prog 41 Box := arg_struct Tryd.underlying41 rd41 rfl
theorem rd4 : Reads Tryd.prog 4 Bool := reads_bool Tryd.underlying4
theorem ar4 : ArgOK Tryd.prog 4 Bool := arg_bool Tryd.underlying4
theorem rd43 : Reads Tryd.prog 43 DNode := reads_struct Tryd.underlying43 (.cons rfl (by kernel_rfl) rd9 (.cons rfl (by kernel_rfl) rd3 (.cons rfl (by kernel_rfl) rd41 (.cons rfl (by kernel_rfl) rd9 (.cons rfl (by kernel_rfl) rd9 (.cons rfl (by kernel_rfl) rd9 (.one rfl (by kernel_rfl) rd4))))))) (by kernel_rfl) (fun b => ⟨⟨b.1, b.2.1, b.2.2.1, b.2.2.2.1, b.2.2.2.2.1, b.2.2.2.2.2.1, b.2.2.2.2.2.2⟩, rfl⟩)
theorem ar43 : ArgOK Tryd.prog 43 DNode := arg_struct Tryd.underlying43 rd43 rfl
theorem rd22 : Reads Tryd.prog 22 (List DNode) := reads_slice Tryd.underlying22 rd43 (by kernel_rfl)
theorem ar22 : ArgOK Tryd.prog 22 (List DNode) := arg_slice Tryd.underlying22 rd22
theorem rd93 : Reads Tryd.prog 93 DEnd := reads_struct Tryd.underlying93 (.cons rfl (by kernel_rfl) rd9 (.cons rfl (by kernel_rfl) rd3 (.one rfl (by kernel_rfl) rd3))) (by kernel_rfl) (fun b => ⟨⟨b.1, b.2.1, b.2.2⟩, rfl⟩)
theorem ar93 : ArgOK Tryd.prog 93 DEnd := arg_struct Tryd.underlying93 rd93 rfl
theorem rd118 : Reads Tryd.prog 118 Point := reads_struct Tryd.underlying118 (.cons rfl (by kernel_rfl) rd3 (.one rfl (by kernel_rfl) rd3)) (by kernel_rfl) (fun b => ⟨⟨b.1, b.2⟩, rfl⟩)
theorem ar118 : ArgOK Tryd.prog 118 Point := arg_struct Tryd.underlying118 rd118 rfl
theorem rd94 : Reads Tryd.prog 94 (List Point) := reads_slice Tryd.underlying94 rd118 (by kernel_rfl)
theorem ar94 : ArgOK Tryd.prog 94 (List Point) := arg_slice Tryd.underlying94 rd94
theorem rd96 : Reads Tryd.prog 96 DEdge := reads_struct Tryd.underlying96 (.cons rfl (by kernel_rfl) rd9 (.cons rfl (by kernel_rfl) rd93 (.cons rfl (by kernel_rfl) rd93 (.cons rfl (by kernel_rfl) rd94 (.cons rfl (by kernel_rfl) rd9 (.one rfl (by kernel_rfl) rd9)))))) (by kernel_rfl) (fun b => ⟨⟨b.1, b.2.1, b.2.2.1, b.2.2.2.1, b.2.2.2.2.1, b.2.2.2.2.2⟩, rfl⟩)
theorem ar96 : ArgOK Tryd.prog 96 DEdge := arg_struct Tryd.underlying96 rd96 rfl
theorem rd23 : Reads Tryd.prog 23 (List DEdge) := reads_slice Tryd.underlying23 rd96 (by kernel_rfl)
theorem ar23 : ArgOK Tryd.prog 23 (List DEdge) := arg_slice Tryd.underlying23 rd23
theorem rd25 : Reads Tryd.prog 25 Doc := reads_struct Tryd.underlying25 (.cons rfl (by kernel_rfl) rd22 (.one rfl (by kernel_rfl) rd23)) (by kernel_rfl) (fun b => ⟨⟨b.1, b.2⟩, rfl⟩)
theorem ar25 : ArgOK Tryd.prog 25 Doc := arg_struct Tryd.underlying25 rd25 rfl
theorem rd35 : Reads Tryd.prog 35 (List Str) := reads_slice Tryd.underlying35 rd9 (by kernel_rfl)
theorem ar35 : ArgOK Tryd.prog 35 (List Str) := arg_slice Tryd.underlying35 rd35
theorem TopSelections_calls (H : Type) (enc : TypeId × Value → H) (W : World) (base : Nat) (args : Array Value) (ds : List (DataW H)) (ps : List MemPlace) (hlow : Low NoM W)
  (hval : ∀ (j : Nat) t v, Tryd.f5.params[j]? = some t → args[j]? = some v → Value.okWide Tryd.prog W .any base t v)
  (hA : DataW.TrodAll enc Tryd.prog W 0 (fun _ => true) true Tryd.f5.params.toList args.toList ds ps) : Gives Tryd.prog 5 args.toList NoM W (rep true) := by
 rw [Tryd.params5] at hA hval
 obtain ⟨v0, vs0, d0, ds0, p0, q0, ha0, rfl, rfl, h0, r0⟩ := trodAll_cons hA
 obtain ⟨v1, vs1, d1, ds1, p1, q1, rfl, rfl, rfl, h1, r1⟩ := trodAll_cons r0
 obtain ⟨v2, vs2, d2, ds2, p2, q2, rfl, rfl, rfl, h2, r2⟩ := trodAll_cons r1
 obtain ⟨v3, vs3, d3, ds3, p3, q3, rfl, rfl, rfl, h3, r3⟩ := trodAll_cons r2
 obtain ⟨rfl, rfl, rfl⟩ := trodAll_nil r3
 obtain ⟨x0, k0⟩ := ar25 H enc W base v0 d0 p0 (hval 0 25 v0 rfl (by rw [← Array.getElem?_toList, ha0]; rfl)) h0
 obtain ⟨x1, k1⟩ := ar35 H enc W base v1 d1 p1 (hval 1 35 v1 rfl (by rw [← Array.getElem?_toList, ha0]; rfl)) h1
 obtain ⟨x2, k2⟩ := ar3 H enc W base v2 d2 p2 (hval 2 3 v2 rfl (by rw [← Array.getElem?_toList, ha0]; rfl)) h2
 obtain ⟨x3, k3⟩ := ar4 H enc W base v3 d3 p3 (hval 3 4 v3 rfl (by rw [← Array.getElem?_toList, ha0]; rfl)) h3
 rw [ha0]
 exact (top_TopSelections_ok (TopSelections_true x0 x1 x2 x3 (rep_fits k0) (rep_fits k1))).calls NoM W _ hlow ⟨k0, k1, k2, k3, trivial⟩
theorem TopSelections_lifted (os : Os) (started : os.Started) (H : Type) (enc : TypeId × Value → H) :
  ReturnsInHanded {} Tryd.checked os 5 .any (fun w args => (Rows.topSelectionsSpec.pre enc Tryd.prog Tryd.f5 Rows.topSelectionsRow.domain false w args ∧ laidMetH Tryd.prog Rows.topSelectionsRow.laid w) ∧ sizedMet enc Tryd.prog Tryd.f5 (OpenSpec.ofChange Rows.topSelectionsSpec) false w args) (Rows.topSelectionsSpec.post enc Tryd.prog Tryd.f5 false true false false) := by
 refine returns_laid (C := Tryd.checked) (X := fun w _ => laidMetH Tryd.prog Rows.topSelectionsRow.laid w) (fun _ _ _ hh h => h.of_heap hh) Tryd.own started (by kernel_rfl) Tryd.func5
  (ChangeSpec.witness_shaped (enc := enc) (C := Tryd.checked) (os := os) (X := fun w _ => laidMetH Tryd.prog Rows.topSelectionsRow.laid w) false (World.laidAll Tryd.prog os Rows.topSelectionsRow.laid) #[.agg #[.slice none 0 0, .slice none 0 0], .slice none 0 0, .int .i64 0, .bool false] 8 (World.laidAll_os _ _ _)
   (World.shaped_of_ZipB (by kernel_rfl) (by kernel_rfl)) (by kernel_rfl) (by kernel_rfl) (by kernel_rfl)
   (by rw [MakeChecks.laidMetH_plain _ _ _ (by kernel_rfl)]; exact laidMet_laidAll _ (by kernel_rfl) (by kernel_rfl))) ?_
 intro W base args ds gs before hval hW hL hsh
 have hl : laidMet Tryd.prog Rows.topSelectionsRow.laid W := laidMet_plain hL (by kernel_rfl)
 have e1 : (Rows.laid_unicode_utf8_first : DataW Unit) = Go.Lib.firstData := by kernel_rfl
 have e2 : (Rows.laid_unicode_utf8_acceptRanges : DataW Unit) = Go.Lib.acceptData := by kernel_rfl
 have ht : Go.Lib.Utf8Tabs gFirst gAcc W := Proofs.utf8Tabs_of_readsT (Proofs.U8Types.of196 validStr_lay) ⟨by kernel_rfl, by kernel_rfl, by kernel_rfl, by kernel_rfl, by kernel_rfl, by kernel_rfl, by kernel_rfl⟩ (e1 ▸ Go.Lib.laidMet.reads hl (.tail _ (.head _))) (e2 ▸ Go.Lib.laidMet.reads hl (.head _))
 have hx : ∃ m, W.cell? ⟨gMax, 0, none⟩ = some (.int .i64 m) := Proofs.cell_of_shapedOpen_int (t := 3) (zero := #[.int .i64 0]) hsh (of_decide_eq_true (by kernel_rfl)) (by kernel_rfl) rfl (by kernel_rfl) (by kernel_rfl) Tryd.underlying3
 have hr : Tryd.f5.params.toList.all (fun t => Tryd.prog.readableRec t && decide (t < Tryd.prog.types.size)) = true := by kernel_rfl
 refine law_post (P := Tryd.prog) (B := 4) (s := Rows.topSelectionsSpec) rfl (by kernel_rfl) Tryd.underlying4 Tryd.laidOut (fun t ht => by have := List.all_eq_true.1 hr t ht; simpa using this) ?_ TopSelections_calls H enc W base args ds gs before (Low.start (fun k h => h) ht hx) hval hW
 intro H ds hd
 rw [Tryd.params5] at hd
 match ds, hd with
 | [e0, e1, e2, e3], _ => rfl
theorem TopSelections_holds : Rows.TopSelectionsSaid :=
 OpenClaim.holds_of_wide 5 Tryd.f5 rfl rfl rfl rfl rfl rfl rfl ⟨rfl, rfl, rfl, rfl, rfl⟩ rfl rfl rfl rfl rfl (by kernel_rfl) Tryd.func5 (by kernel_rfl)
  (of_decide_eq_true (by kernel_rfl)) (by unfold Func.isWrapper; rw [if_neg (of_decide_eq_false (by kernel_rfl))]; exact ⟨rfl, rfl⟩)
  (fun os started H enc _ => TopSelections_lifted os started H enc)
theorem TopSelections_card : Rows.TopSelectionsCardSaid :=
 Claim7.holds_tied_plain_at .later [] [.data, .pinned] true (true, "c9d7f15d9b15599d17e9c66a5e29e286ce1e9c351f1e19272f610ecd0757be22") false TopSelections_holds (fun _ h => by cases h) (by kernel_rfl) (fun _ h => by cases h) topSelections_row_tie rfl ⟨rfl, rfl⟩ (by kernel_rfl) rfl
  (fun f fn hf hfn => by
   obtain rfl : f = 5 := Option.some.inj ((show Tryd.prog.funcNamed "drawboard/drawtop.TopSelections" = some 5 by kernel_rfl).symm.trans hf) |>.symm
   obtain rfl : fn = Tryd.f5 := (Option.some.inj (Tryd.func5.symm.trans hfn)).symm
   exact ⟨by kernel_rfl, fun j t ht => by
    rw [Tryd.params5] at ht
    have hm : t ∈ [25, 35, 3, 4] := by simpa using Array.mem_of_getElem? ht
    have hall : ([25, 35, 3, 4].all fun u => !Tryd.prog.wantsStandIn u) = true := by kernel_rfl
    exact (show Tryd.prog.wantsStandIn t = false by simpa using List.all_eq_true.1 hall t hm)⟩)
  (by kernel_rfl)
end Go.Proofs.YtclcheggnlhamaaDoor
