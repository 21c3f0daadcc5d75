/-
  SketchesMatch: diagrams are drawn with signs as the reference says, for every diagram and size of cells.
-/
import Derived.Test.YtbogpbomhmabhaaGreatDoorSkeWa2
import Derived.Test.YtbogpbomhmabhaaGreatDoorLawDoor
import Derived.Test.YtbogpbomhmabhaaGreatDoorSkePuSke
import Derived.Test.YtbogpbomhmabhaaGreatDoorCards
import Derived.Test.YtbogpbomhmabhaaGreatDoorTie
namespace Go.Proofs.YtbogpbomhmabhaaGreatDoor
open Go Go.DB Go.RowKit Go.ChangeShapes Go.WideShapes Go.ChangeAt
set_option maxRecDepth 100000
set_option linter.unusedSimpArgs false
set_option linter.unusedVariables false

theorem Tryz.own : ownKnob Tryz.prog.godebug = none := by kernel_rfl
theorem Tryz.laidOut : laidOutB Tryz.prog = true := by kernel_rfl

theorem rd9 : Reads Tryz.prog 9 Str := reads_str Tryz.underlying9
theorem ar9 : ArgOK Tryz.prog 9 Str := arg_str Tryz.underlying9
theorem rd3 : Reads Tryz.prog 3 Int := reads_int Tryz.underlying3
theorem ar3 : ArgOK Tryz.prog 3 Int := arg_int Tryz.underlying3
theorem rd38 : Reads Tryz.prog 38 Box := reads_struct Tryz.underlying38 (.cons rfl (by kernel_rfl) rd3 (.cons rfl (by kernel_rfl) rd3 (.cons rfl (by kernel_rfl) rd3 (.one rfl (by kernel_rfl) rd3)))) (by kernel_rfl) (fun b => ⟨⟨b.1, b.2.1, b.2.2.1, b.2.2.2⟩, rfl⟩)
theorem ar38 : ArgOK Tryz.prog 38 Box := arg_struct Tryz.underlying38 rd38 rfl
theorem rd4 : Reads Tryz.prog 4 Bool := reads_bool Tryz.underlying4
theorem ar4 : ArgOK Tryz.prog 4 Bool := arg_bool Tryz.underlying4
theorem rd40 : Reads Tryz.prog 40 DNode := reads_struct Tryz.underlying40 (.cons rfl (by kernel_rfl) rd9 (.cons rfl (by kernel_rfl) rd3 (.cons rfl (by kernel_rfl) rd38 (.cons rfl (by kernel_rfl) rd9 (.cons rfl (by kernel_rfl) rd9 (.cons rfl (by kernel_rfl) rd9 (.one rfl (by kernel_rfl) rd4))))))) (by kernel_rfl) (fun b => ⟨⟨b.1, b.2.1, b.2.2.1, b.2.2.2.1, b.2.2.2.2.1, b.2.2.2.2.2.1, b.2.2.2.2.2.2⟩, rfl⟩)
theorem ar40 : ArgOK Tryz.prog 40 DNode := arg_struct Tryz.underlying40 rd40 rfl
theorem rd22 : Reads Tryz.prog 22 (List DNode) := reads_slice Tryz.underlying22 rd40 (by kernel_rfl)
theorem ar22 : ArgOK Tryz.prog 22 (List DNode) := arg_slice Tryz.underlying22 rd22
theorem rd76 : Reads Tryz.prog 76 DEnd := reads_struct Tryz.underlying76 (.cons rfl (by kernel_rfl) rd9 (.cons rfl (by kernel_rfl) rd3 (.one rfl (by kernel_rfl) rd3))) (by kernel_rfl) (fun b => ⟨⟨b.1, b.2.1, b.2.2⟩, rfl⟩)
theorem ar76 : ArgOK Tryz.prog 76 DEnd := arg_struct Tryz.underlying76 rd76 rfl
theorem rd47 : Reads Tryz.prog 47 Point := reads_struct Tryz.underlying47 (.cons rfl (by kernel_rfl) rd3 (.one rfl (by kernel_rfl) rd3)) (by kernel_rfl) (fun b => ⟨⟨b.1, b.2⟩, rfl⟩)
theorem ar47 : ArgOK Tryz.prog 47 Point := arg_struct Tryz.underlying47 rd47 rfl
theorem rd77 : Reads Tryz.prog 77 (List Point) := reads_slice Tryz.underlying77 rd47 (by kernel_rfl)
theorem ar77 : ArgOK Tryz.prog 77 (List Point) := arg_slice Tryz.underlying77 rd77
theorem rd79 : Reads Tryz.prog 79 DEdge := reads_struct Tryz.underlying79 (.cons rfl (by kernel_rfl) rd9 (.cons rfl (by kernel_rfl) rd76 (.cons rfl (by kernel_rfl) rd76 (.cons rfl (by kernel_rfl) rd77 (.cons rfl (by kernel_rfl) rd9 (.one rfl (by kernel_rfl) rd9)))))) (by kernel_rfl) (fun b => ⟨⟨b.1, b.2.1, b.2.2.1, b.2.2.2.1, b.2.2.2.2.1, b.2.2.2.2.2⟩, rfl⟩)
theorem ar79 : ArgOK Tryz.prog 79 DEdge := arg_struct Tryz.underlying79 rd79 rfl
theorem rd23 : Reads Tryz.prog 23 (List DEdge) := reads_slice Tryz.underlying23 rd79 (by kernel_rfl)
theorem ar23 : ArgOK Tryz.prog 23 (List DEdge) := arg_slice Tryz.underlying23 rd23
theorem rd25 : Reads Tryz.prog 25 Doc := reads_struct Tryz.underlying25 (.cons rfl (by kernel_rfl) rd22 (.one rfl (by kernel_rfl) rd23)) (by kernel_rfl) (fun b => ⟨⟨b.1, b.2⟩, rfl⟩)
theorem ar25 : ArgOK Tryz.prog 25 Doc := arg_struct Tryz.underlying25 rd25 rfl

theorem SketchesMatch_calls (H : Type) (enc : TypeId × Value → H) (W : World) (base : Nat) (args : Array Value) (ds : List (DataW H)) (ps : List MemPlace) (hlow : Low NoM W)
    (hval : ∀ (j : Nat) t v, Tryz.f3.params[j]? = some t → args[j]? = some v → Value.okWide Tryz.prog W .any base t v)
    (hA : DataW.TrodAll enc Tryz.prog W 0 (fun _ => true) true Tryz.f3.params.toList args.toList ds ps) : Gives Tryz.prog 3 args.toList NoM W (rep true) := by
  rw [Tryz.params3] at hA hval
  obtain ⟨v0, vs0, d0, ds0, p0, q0, ha0, rfl, rfl, h0, r0⟩ := trodAll_cons hA
  obtain ⟨v1, vs1, d1, ds1, p1, q1, rfl, rfl, rfl, h1, r1⟩ := trodAll_cons r0
  obtain ⟨v2, vs2, d2, ds2, p2, q2, rfl, rfl, rfl, h2, r2⟩ := trodAll_cons r1
  obtain ⟨rfl, rfl, rfl⟩ := trodAll_nil r2
  obtain ⟨x0, k0⟩ := ar25 H enc W base v0 d0 p0 (hval 0 25 v0 rfl (by rw [← Array.getElem?_toList, ha0]; rfl)) h0
  obtain ⟨x1, k1⟩ := ar3 H enc W base v1 d1 p1 (hval 1 3 v1 rfl (by rw [← Array.getElem?_toList, ha0]; rfl)) h1
  obtain ⟨x2, k2⟩ := ar3 H enc W base v2 d2 p2 (hval 2 3 v2 rfl (by rw [← Array.getElem?_toList, ha0]; rfl)) h2
  rw [ha0]
  exact (law_SketchesMatch_ok (SketchesMatch_true x0 x1 x2 (rep_fits k0))).calls NoM W _ hlow ⟨k0, k1, k2, trivial⟩

theorem SketchesMatch_lifted (os : Os) (started : os.Started) (H : Type) (enc : TypeId × Value → H) :
    ReturnsInHanded {} Tryz.checked os 3 .any (fun w args => (Rows.sketchesMatchSpec.pre enc Tryz.prog Tryz.f3 Rows.sketchesMatchRow.domain false w args ∧ laidMetH Tryz.prog Rows.sketchesMatchRow.laid w) ∧ sizedMet enc Tryz.prog Tryz.f3 (OpenSpec.ofChange Rows.sketchesMatchSpec) false w args) (Rows.sketchesMatchSpec.post enc Tryz.prog Tryz.f3 false true false false) := by
  refine returns_laid (C := Tryz.checked) (X := fun w _ => laidMetH Tryz.prog Rows.sketchesMatchRow.laid w) (fun _ _ _ hh h => h.of_heap hh) Tryz.own started (by kernel_rfl) Tryz.func3
    (ChangeSpec.witness_shaped (enc := enc) (C := Tryz.checked) (os := os) (X := fun w _ => laidMetH Tryz.prog Rows.sketchesMatchRow.laid w) false (World.laidAll Tryz.prog os Rows.sketchesMatchRow.laid) #[.agg #[.slice none 0 0, .slice none 0 0], .int .i64 0, .int .i64 0] 8 (World.laidAll_os _ _ _)
      (World.shaped_of_ZipB (by kernel_rfl) (by kernel_rfl)) (by kernel_rfl) (by kernel_rfl) (by kernel_rfl)
      (by rw [MakeChecks.laidMetH_plain _ _ _ (by kernel_rfl)]; exact laidMet_laidAll _ (by kernel_rfl) (by kernel_rfl))) ?_
  intro W base args ds gs before hval hW hL hsh
  have hl : laidMet Tryz.prog Rows.sketchesMatchRow.laid W := laidMet_plain hL (by kernel_rfl)
  have e1 : (Rows.laid_unicode_utf8_first : DataW Unit) = Go.Lib.firstData := by kernel_rfl
  have e2 : (Rows.laid_unicode_utf8_acceptRanges : DataW Unit) = Go.Lib.acceptData := by kernel_rfl
  have ht : Go.Lib.Utf8Tabs gFirst gAcc W := Proofs.utf8Tabs_of_readsT (Proofs.U8Types.of196 validStr_lay) ⟨by kernel_rfl, by kernel_rfl, by kernel_rfl, by kernel_rfl, by kernel_rfl, by kernel_rfl, by kernel_rfl⟩ (e1 ▸ Go.Lib.laidMet.reads hl (.tail _ (.head _))) (e2 ▸ Go.Lib.laidMet.reads hl (.head _))
  have hx : ∃ m, W.cell? ⟨gMax, 0, none⟩ = some (.int .i64 m) := Proofs.cell_of_shapedOpen_int (t := 3) (zero := #[.int .i64 0]) hsh (of_decide_eq_true (by kernel_rfl)) (by kernel_rfl) rfl (by kernel_rfl) (by kernel_rfl) Tryz.underlying3
  have hr : Tryz.f3.params.toList.all (fun t => Tryz.prog.readableRec t && decide (t < Tryz.prog.types.size)) = true := by kernel_rfl
  refine law_post (P := Tryz.prog) (B := 4) (s := Rows.sketchesMatchSpec) rfl (by kernel_rfl) Tryz.underlying4 Tryz.laidOut (fun t ht => by have := List.all_eq_true.1 hr t ht; simpa using this) ?_ SketchesMatch_calls H enc W base args ds gs before (Low.start (fun k h => h) ht hx) hval hW
  intro H ds hd
  rw [Tryz.params3] at hd
  match ds, hd with
  | [e0, e1, e2], _ => rfl

theorem SketchesMatch_holds : Rows.SketchesMatchSaid :=
  OpenClaim.holds_of_wide 3 Tryz.f3 rfl rfl rfl rfl rfl rfl rfl ⟨rfl, rfl, rfl, rfl, rfl⟩ rfl rfl rfl rfl rfl (by kernel_rfl) Tryz.func3 (by kernel_rfl)
    (of_decide_eq_true (by kernel_rfl)) (by unfold Func.isWrapper; rw [if_neg (of_decide_eq_false (by kernel_rfl))]; exact ⟨rfl, rfl⟩)
    (fun os started H enc _ => SketchesMatch_lifted os started H enc)

theorem SketchesMatch_card : Rows.SketchesMatchCardSaid :=
  Claim7.holds_tied_plain_at .later [] [.data, .pinned] true (true, "8b67e36aeb44c2b7b430fcc8e4a6c654a72ee781800ee0eda365ff9202084391") false SketchesMatch_holds (fun _ h => by cases h) (by kernel_rfl) (fun _ h => by cases h) sketchesMatch_row_tie rfl ⟨rfl, rfl⟩ (by kernel_rfl) rfl
    (fun f fn hf hfn => by
      obtain rfl : f = 3 := Option.some.inj ((show Tryz.prog.funcNamed "drawboard/drawlaw1.SketchesMatch" = some 3 by kernel_rfl).symm.trans hf) |>.symm
      obtain rfl : fn = Tryz.f3 := (Option.some.inj (Tryz.func3.symm.trans hfn)).symm
      exact ⟨by kernel_rfl, fun j t ht => by
        rw [Tryz.params3] at ht
        have hm : t ∈ [25, 3, 3] := by simpa using Array.mem_of_getElem? ht
        have hall : ([25, 3, 3].all fun u => !Tryz.prog.wantsStandIn u) = true := by kernel_rfl
        exact (show Tryz.prog.wantsStandIn t = false by simpa using List.all_eq_true.1 hall t hm)⟩)
    (by kernel_rfl)

end Go.Proofs.YtbogpbomhmabhaaGreatDoor
