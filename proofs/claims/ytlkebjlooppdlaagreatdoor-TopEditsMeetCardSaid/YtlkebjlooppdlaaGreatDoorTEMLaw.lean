/-
  TopEditsMeet: whoever has the same operations has the same state, in whatever order and portions they came; undone and done again nothing has changed: for every lists of operations, every cut and every site.
-/
import Derived.Test.YtlkebjlooppdlaaGreatDoorTEMWa1
import Derived.Test.YtlkebjlooppdlaaGreatDoorLawDoor
import Derived.Test.YtlkebjlooppdlaaGreatDoorTEMPuMeet
import Derived.Test.YtlkebjlooppdlaaGreatDoorCards
import Derived.Test.YtlkebjlooppdlaaGreatDoorTie
namespace Go.Proofs.YtlkebjlooppdlaaGreatDoor
open Go Go.DB Go.RowKit Go.ChangeShapes Go.WideShapes Go.ChangeAt
set_option maxRecDepth 100000
set_option linter.unusedSimpArgs false
set_option linter.unusedVariables false

theorem Tryz.own : ownKnob Tryz.prog.godebug = none := by kernel_rfl
theorem Tryz.laidOut : laidOutB Tryz.prog = true := by kernel_rfl

theorem rd3 : Reads Tryz.prog 3 Int := reads_int Tryz.underlying3
theorem ar3 : ArgOK Tryz.prog 3 Int := arg_int Tryz.underlying3
theorem rd9 : Reads Tryz.prog 9 Str := reads_str Tryz.underlying9
theorem ar9 : ArgOK Tryz.prog 9 Str := arg_str Tryz.underlying9
theorem rd40 : Reads Tryz.prog 40 Stamp := reads_struct Tryz.underlying40 (.cons rfl (by kernel_rfl) rd3 (.cons rfl (by kernel_rfl) rd9 (.one rfl (by kernel_rfl) rd3))) (by kernel_rfl) (fun b => ⟨⟨b.1, b.2.1, b.2.2⟩, rfl⟩)
theorem ar40 : ArgOK Tryz.prog 40 Stamp := arg_struct Tryz.underlying40 rd40 rfl
theorem rd42 : Reads Tryz.prog 42 DOp := reads_struct Tryz.underlying42 (.cons rfl (by kernel_rfl) rd40 (.cons rfl (by kernel_rfl) rd3 (.cons rfl (by kernel_rfl) rd9 (.cons rfl (by kernel_rfl) rd9 (.cons rfl (by kernel_rfl) rd9 (.one rfl (by kernel_rfl) rd3)))))) (by kernel_rfl) (fun b => ⟨⟨b.1, b.2.1, b.2.2.1, b.2.2.2.1, b.2.2.2.2.1, b.2.2.2.2.2⟩, rfl⟩)
theorem ar42 : ArgOK Tryz.prog 42 DOp := arg_struct Tryz.underlying42 rd42 rfl
theorem rd22 : Reads Tryz.prog 22 (List DOp) := reads_slice Tryz.underlying22 rd42 (by kernel_rfl)
theorem ar22 : ArgOK Tryz.prog 22 (List DOp) := arg_slice Tryz.underlying22 rd22

theorem TopEditsMeet_calls (H : Type) (enc : TypeId × Value → H) (W : World) (base : Nat) (args : Array Value) (ds : List (DataW H)) (ps : List MemPlace) (hlow : Low NoM W)
    (hval : ∀ (j : Nat) t v, Tryz.f4.params[j]? = some t → args[j]? = some v → Value.okWide Tryz.prog W .any base t v)
    (hA : DataW.TrodAll enc Tryz.prog W 0 (fun _ => true) true Tryz.f4.params.toList args.toList ds ps) : Gives Tryz.prog 4 args.toList NoM W (rep true) := by
  rw [Tryz.params4] at hA hval
  obtain ⟨v0, vs0, d0, ds0, p0, q0, ha0, rfl, rfl, h0, r0⟩ := trodAll_cons hA
  obtain ⟨v1, vs1, d1, ds1, p1, q1, rfl, rfl, rfl, h1, r1⟩ := trodAll_cons r0
  obtain ⟨v2, vs2, d2, ds2, p2, q2, rfl, rfl, rfl, h2, r2⟩ := trodAll_cons r1
  obtain ⟨v3, vs3, d3, ds3, p3, q3, rfl, rfl, rfl, h3, r3⟩ := trodAll_cons r2
  obtain ⟨v4, vs4, d4, ds4, p4, q4, rfl, rfl, rfl, h4, r4⟩ := trodAll_cons r3
  obtain ⟨rfl, rfl, rfl⟩ := trodAll_nil r4
  obtain ⟨x0, k0⟩ := ar22 H enc W base v0 d0 p0 (hval 0 22 v0 rfl (by rw [← Array.getElem?_toList, ha0]; rfl)) h0
  obtain ⟨x1, k1⟩ := ar22 H enc W base v1 d1 p1 (hval 1 22 v1 rfl (by rw [← Array.getElem?_toList, ha0]; rfl)) h1
  obtain ⟨x2, k2⟩ := ar22 H enc W base v2 d2 p2 (hval 2 22 v2 rfl (by rw [← Array.getElem?_toList, ha0]; rfl)) h2
  obtain ⟨x3, k3⟩ := ar3 H enc W base v3 d3 p3 (hval 3 3 v3 rfl (by rw [← Array.getElem?_toList, ha0]; rfl)) h3
  obtain ⟨x4, k4⟩ := ar9 H enc W base v4 d4 p4 (hval 4 9 v4 rfl (by rw [← Array.getElem?_toList, ha0]; rfl)) h4
  rw [ha0]
  exact (top_TopEditsMeet_ok (TopEditsMeet_true x0 x1 x2 x3 x4)).calls NoM W _ hlow ⟨k0, k1, k2, k3, k4, trivial⟩

theorem TopEditsMeet_lifted (os : Os) (started : os.Started) (H : Type) (enc : TypeId × Value → H) :
    ReturnsInHanded {} Tryz.checked os 4 .any (fun w args => (Rows.topEditsMeetSpec.pre enc Tryz.prog Tryz.f4 Rows.topEditsMeetRow.domain false w args ∧ laidMetH Tryz.prog Rows.topEditsMeetRow.laid w) ∧ sizedMet enc Tryz.prog Tryz.f4 (OpenSpec.ofChange Rows.topEditsMeetSpec) false w args) (Rows.topEditsMeetSpec.post enc Tryz.prog Tryz.f4 false true false false) := by
  refine returns_laid (C := Tryz.checked) (X := fun w _ => laidMetH Tryz.prog Rows.topEditsMeetRow.laid w) (fun _ _ _ hh h => h.of_heap hh) Tryz.own started (by kernel_rfl) Tryz.func4
    (ChangeSpec.witness_shaped (enc := enc) (C := Tryz.checked) (os := os) (X := fun w _ => laidMetH Tryz.prog Rows.topEditsMeetRow.laid w) false (World.laidAll Tryz.prog os Rows.topEditsMeetRow.laid) #[.slice none 0 0, .slice none 0 0, .slice none 0 0, .int .i64 0, .string ByteArray.empty] 8 (World.laidAll_os _ _ _)
      (World.shaped_of_ZipB (by kernel_rfl) (by kernel_rfl)) (by kernel_rfl) (by kernel_rfl) (by kernel_rfl)
      (by rw [MakeChecks.laidMetH_plain _ _ _ (by kernel_rfl)]; exact laidMet_laidAll _ (by kernel_rfl) (by kernel_rfl))) ?_
  intro W base args ds gs before hval hW hL hsh
  have hl : laidMet Tryz.prog Rows.topEditsMeetRow.laid W := laidMet_plain hL (by kernel_rfl)
  have e1 : (Rows.laid_unicode_utf8_first : DataW Unit) = Go.Lib.firstData := by kernel_rfl
  have e2 : (Rows.laid_unicode_utf8_acceptRanges : DataW Unit) = Go.Lib.acceptData := by kernel_rfl
  have ht : Go.Lib.Utf8Tabs gFirst gAcc W := Proofs.utf8Tabs_of_readsT (Proofs.U8Types.of196 validStr_lay) ⟨by kernel_rfl, by kernel_rfl, by kernel_rfl, by kernel_rfl, by kernel_rfl, by kernel_rfl, by kernel_rfl⟩ (e1 ▸ Go.Lib.laidMet.reads hl (.tail _ (.head _))) (e2 ▸ Go.Lib.laidMet.reads hl (.head _))
  have hx : ∃ m, W.cell? ⟨gMax, 0, none⟩ = some (.int .i64 m) := Proofs.cell_of_shapedOpen_int (t := 3) (zero := #[.int .i64 0]) hsh (of_decide_eq_true (by kernel_rfl)) (by kernel_rfl) rfl (by kernel_rfl) (by kernel_rfl) Tryz.underlying3
  have hr : Tryz.f4.params.toList.all (fun t => Tryz.prog.readableRec t && decide (t < Tryz.prog.types.size)) = true := by kernel_rfl
  refine law_post (P := Tryz.prog) (B := 4) (s := Rows.topEditsMeetSpec) rfl (by kernel_rfl) Tryz.underlying4 Tryz.laidOut (fun t ht => by have := List.all_eq_true.1 hr t ht; simpa using this) ?_ TopEditsMeet_calls H enc W base args ds gs before (Low.start (fun k h => h) ht hx) hval hW
  intro H ds hd
  rw [Tryz.params4] at hd
  match ds, hd with
  | [e0, e1, e2, e3, e4], _ => rfl

theorem TopEditsMeet_holds : Rows.TopEditsMeetSaid :=
  OpenClaim.holds_of_wide 4 Tryz.f4 rfl rfl rfl rfl rfl rfl rfl ⟨rfl, rfl, rfl, rfl, rfl⟩ rfl rfl rfl rfl rfl (by kernel_rfl) Tryz.func4 (by kernel_rfl)
    (of_decide_eq_true (by kernel_rfl)) (by unfold Func.isWrapper; rw [if_neg (of_decide_eq_false (by kernel_rfl))]; exact ⟨rfl, rfl⟩)
    (fun os started H enc _ => TopEditsMeet_lifted os started H enc)

theorem TopEditsMeet_card : Rows.TopEditsMeetCardSaid :=
  Claim7.holds_tied_plain_at .later [] [.data, .pinned] true (true, "e241b57b534ace16a482287a3e6b55634a3af2a93225d50919a5004dacb98df9") false TopEditsMeet_holds (fun _ h => by cases h) (by kernel_rfl) (fun _ h => by cases h) topEditsMeet_row_tie rfl ⟨rfl, rfl⟩ (by kernel_rfl) rfl
    (fun f fn hf hfn => by
      obtain rfl : f = 4 := Option.some.inj ((show Tryz.prog.funcNamed "drawboard/drawtop.TopEditsMeet" = some 4 by kernel_rfl).symm.trans hf) |>.symm
      obtain rfl : fn = Tryz.f4 := (Option.some.inj (Tryz.func4.symm.trans hfn)).symm
      exact ⟨by kernel_rfl, fun j t ht => by
        rw [Tryz.params4] at ht
        have hm : t ∈ [22, 22, 22, 3, 9] := by simpa using Array.mem_of_getElem? ht
        have hall : ([22, 22, 22, 3, 9].all fun u => !Tryz.prog.wantsStandIn u) = true := by kernel_rfl
        exact (show Tryz.prog.wantsStandIn t = false by simpa using List.all_eq_true.1 hall t hm)⟩)
    (by kernel_rfl)

end Go.Proofs.YtlkebjlooppdlaaGreatDoor
