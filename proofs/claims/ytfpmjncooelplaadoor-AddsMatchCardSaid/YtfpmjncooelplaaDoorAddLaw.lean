/-
  AddsMatch: operations that are added, undone and done again are as the document says, for every list of operations and every input.
-/
import Derived.Test.YtfpmjncooelplaaDoorAddWa1
import Derived.Test.YtfpmjncooelplaaDoorLawDoor
import Derived.Test.YtfpmjncooelplaaDoorAddPuAdds
import Derived.Test.YtfpmjncooelplaaDoorCards
import Derived.Test.YtfpmjncooelplaaDoorTie
namespace Go.Proofs.YtfpmjncooelplaaDoor
open Go Go.DB Go.RowKit Go.ChangeShapes Go.WideShapes Go.ChangeAt
set_option maxRecDepth 100000
set_option linter.unusedSimpArgs false
set_option linter.unusedVariables false

theorem Tryd.own : ownKnob Tryd.prog.godebug = none := by kernel_rfl
theorem Tryd.laidOut : laidOutB Tryd.prog = true := by kernel_rfl

theorem rd3 : Reads Tryd.prog 3 Int := reads_int Tryd.underlying3
theorem ar3 : ArgOK Tryd.prog 3 Int := arg_int Tryd.underlying3
theorem rd9 : Reads Tryd.prog 9 Str := reads_str Tryd.underlying9
theorem ar9 : ArgOK Tryd.prog 9 Str := arg_str Tryd.underlying9
theorem rd32 : Reads Tryd.prog 32 Stamp := reads_struct Tryd.underlying32 (.cons rfl (by kernel_rfl) rd3 (.cons rfl (by kernel_rfl) rd9 (.one rfl (by kernel_rfl) rd3))) (by kernel_rfl) (fun b => ⟨⟨b.1, b.2.1, b.2.2⟩, rfl⟩)
theorem ar32 : ArgOK Tryd.prog 32 Stamp := arg_struct Tryd.underlying32 rd32 rfl
theorem rd34 : Reads Tryd.prog 34 DOp := reads_struct Tryd.underlying34 (.cons rfl (by kernel_rfl) rd32 (.cons rfl (by kernel_rfl) rd3 (.cons rfl (by kernel_rfl) rd9 (.cons rfl (by kernel_rfl) rd9 (.cons rfl (by kernel_rfl) rd9 (.one rfl (by kernel_rfl) rd3)))))) (by kernel_rfl) (fun b => ⟨⟨b.1, b.2.1, b.2.2.1, b.2.2.2.1, b.2.2.2.2.1, b.2.2.2.2.2⟩, rfl⟩)
theorem ar34 : ArgOK Tryd.prog 34 DOp := arg_struct Tryd.underlying34 rd34 rfl
theorem rd22 : Reads Tryd.prog 22 (List DOp) := reads_slice Tryd.underlying22 rd34 (by kernel_rfl)
theorem ar22 : ArgOK Tryd.prog 22 (List DOp) := arg_slice Tryd.underlying22 rd22

theorem AddsMatch_calls (H : Type) (enc : TypeId × Value → H) (W : World) (base : Nat) (args : Array Value) (ds : List (DataW H)) (ps : List MemPlace) (hlow : Low NoM W)
    (hval : ∀ (j : Nat) t v, Tryd.f3.params[j]? = some t → args[j]? = some v → Value.okWide Tryd.prog W .any base t v)
    (hA : DataW.TrodAll enc Tryd.prog W 0 (fun _ => true) true Tryd.f3.params.toList args.toList ds ps) : Gives Tryd.prog 3 args.toList NoM W (rep true) := by
  rw [Tryd.params3] at hA hval
  obtain ⟨v0, vs0, d0, ds0, p0, q0, ha0, rfl, rfl, h0, r0⟩ := trodAll_cons hA
  obtain ⟨v1, vs1, d1, ds1, p1, q1, rfl, rfl, rfl, h1, r1⟩ := trodAll_cons r0
  obtain ⟨v2, vs2, d2, ds2, p2, q2, rfl, rfl, rfl, h2, r2⟩ := trodAll_cons r1
  obtain ⟨v3, vs3, d3, ds3, p3, q3, rfl, rfl, rfl, h3, r3⟩ := trodAll_cons r2
  obtain ⟨v4, vs4, d4, ds4, p4, q4, rfl, rfl, rfl, h4, r4⟩ := trodAll_cons r3
  obtain ⟨v5, vs5, d5, ds5, p5, q5, rfl, rfl, rfl, h5, r5⟩ := trodAll_cons r4
  obtain ⟨rfl, rfl, rfl⟩ := trodAll_nil r5
  obtain ⟨x0, k0⟩ := ar22 H enc W base v0 d0 p0 (hval 0 22 v0 rfl (by rw [← Array.getElem?_toList, ha0]; rfl)) h0
  obtain ⟨x1, k1⟩ := ar9 H enc W base v1 d1 p1 (hval 1 9 v1 rfl (by rw [← Array.getElem?_toList, ha0]; rfl)) h1
  obtain ⟨x2, k2⟩ := ar3 H enc W base v2 d2 p2 (hval 2 3 v2 rfl (by rw [← Array.getElem?_toList, ha0]; rfl)) h2
  obtain ⟨x3, k3⟩ := ar9 H enc W base v3 d3 p3 (hval 3 9 v3 rfl (by rw [← Array.getElem?_toList, ha0]; rfl)) h3
  obtain ⟨x4, k4⟩ := ar9 H enc W base v4 d4 p4 (hval 4 9 v4 rfl (by rw [← Array.getElem?_toList, ha0]; rfl)) h4
  obtain ⟨x5, k5⟩ := ar9 H enc W base v5 d5 p5 (hval 5 9 v5 rfl (by rw [← Array.getElem?_toList, ha0]; rfl)) h5
  rw [ha0]
  exact (law_AddsMatch_ok (AddsMatch_true x0 x1 x2 x3 x4 x5 (rep_fits k0) (rep_fits k1) (rep_fits k3) (rep_fits k4) (rep_fits k5))).calls NoM W _ hlow ⟨k0, k1, k2, k3, k4, k5, trivial⟩

theorem AddsMatch_lifted (os : Os) (started : os.Started) (H : Type) (enc : TypeId × Value → H) :
    ReturnsInHanded {} Tryd.checked os 3 .any (fun w args => (Rows.addsMatchSpec.pre enc Tryd.prog Tryd.f3 Rows.addsMatchRow.domain false w args ∧ laidMetH Tryd.prog Rows.addsMatchRow.laid w) ∧ sizedMet enc Tryd.prog Tryd.f3 (OpenSpec.ofChange Rows.addsMatchSpec) false w args) (Rows.addsMatchSpec.post enc Tryd.prog Tryd.f3 false true false false) := by
  refine returns_laid (C := Tryd.checked) (X := fun w _ => laidMetH Tryd.prog Rows.addsMatchRow.laid w) (fun _ _ _ hh h => h.of_heap hh) Tryd.own started (by kernel_rfl) Tryd.func3
    (ChangeSpec.witness_shaped (enc := enc) (C := Tryd.checked) (os := os) (X := fun w _ => laidMetH Tryd.prog Rows.addsMatchRow.laid w) false (World.laidAll Tryd.prog os Rows.addsMatchRow.laid) #[.slice none 0 0, .string ByteArray.empty, .int .i64 0, .string ByteArray.empty, .string ByteArray.empty, .string ByteArray.empty] 8 (World.laidAll_os _ _ _)
      (World.shaped_of_ZipB (by kernel_rfl) (by kernel_rfl)) (by kernel_rfl) (by kernel_rfl) (by kernel_rfl)
      (by rw [MakeChecks.laidMetH_plain _ _ _ (by kernel_rfl)]; exact laidMet_laidAll _ (by kernel_rfl) (by kernel_rfl))) ?_
  intro W base args ds gs before hval hW hL hsh
  have hl : laidMet Tryd.prog Rows.addsMatchRow.laid W := laidMet_plain hL (by kernel_rfl)
  have e1 : (Rows.laid_unicode_utf8_first : DataW Unit) = Go.Lib.firstData := by kernel_rfl
  have e2 : (Rows.laid_unicode_utf8_acceptRanges : DataW Unit) = Go.Lib.acceptData := by kernel_rfl
  have ht : Go.Lib.Utf8Tabs gFirst gAcc W := Proofs.utf8Tabs_of_readsT (Proofs.U8Types.of196 validStr_lay) ⟨by kernel_rfl, by kernel_rfl, by kernel_rfl, by kernel_rfl, by kernel_rfl, by kernel_rfl, by kernel_rfl⟩ (e1 ▸ Go.Lib.laidMet.reads hl (.tail _ (.head _))) (e2 ▸ Go.Lib.laidMet.reads hl (.head _))
  have hx : ∃ m, W.cell? ⟨gMax, 0, none⟩ = some (.int .i64 m) := Proofs.cell_of_shapedOpen_int (t := 3) (zero := #[.int .i64 0]) hsh (of_decide_eq_true (by kernel_rfl)) (by kernel_rfl) rfl (by kernel_rfl) (by kernel_rfl) Tryd.underlying3
  have hr : Tryd.f3.params.toList.all (fun t => Tryd.prog.readableRec t && decide (t < Tryd.prog.types.size)) = true := by kernel_rfl
  refine law_post (P := Tryd.prog) (B := 4) (s := Rows.addsMatchSpec) rfl (by kernel_rfl) Tryd.underlying4 Tryd.laidOut (fun t ht => by have := List.all_eq_true.1 hr t ht; simpa using this) ?_ AddsMatch_calls H enc W base args ds gs before (Low.start (fun k h => h) ht hx) hval hW
  intro H ds hd
  rw [Tryd.params3] at hd
  match ds, hd with
  | [e0, e1, e2, e3, e4, e5], _ => rfl

theorem AddsMatch_holds : Rows.AddsMatchSaid :=
  OpenClaim.holds_of_wide 3 Tryd.f3 rfl rfl rfl rfl rfl rfl rfl ⟨rfl, rfl, rfl, rfl, rfl⟩ rfl rfl rfl rfl rfl (by kernel_rfl) Tryd.func3 (by kernel_rfl)
    (of_decide_eq_true (by kernel_rfl)) (by unfold Func.isWrapper; rw [if_neg (of_decide_eq_false (by kernel_rfl))]; exact ⟨rfl, rfl⟩)
    (fun os started H enc _ => AddsMatch_lifted os started H enc)

theorem AddsMatch_card : Rows.AddsMatchCardSaid :=
  Claim7.holds_tied_plain_at .later [] [.data, .pinned] true (true, "d657a41c95e6833902f623ffe5f9960ccb79a3b435173214071907cec3fe990d") false AddsMatch_holds (fun _ h => by cases h) (by kernel_rfl) (fun _ h => by cases h) addsMatch_row_tie rfl ⟨rfl, rfl⟩ (by kernel_rfl) rfl
    (fun f fn hf hfn => by
      obtain rfl : f = 3 := Option.some.inj ((show Tryd.prog.funcNamed "drawboard/drawlaw1.AddsMatch" = some 3 by kernel_rfl).symm.trans hf) |>.symm
      obtain rfl : fn = Tryd.f3 := (Option.some.inj (Tryd.func3.symm.trans hfn)).symm
      exact ⟨by kernel_rfl, fun j t ht => by
        rw [Tryd.params3] at ht
        have hm : t ∈ [22, 9, 3, 9, 9, 9] := by simpa using Array.mem_of_getElem? ht
        have hall : ([22, 9, 3, 9, 9, 9].all fun u => !Tryd.prog.wantsStandIn u) = true := by kernel_rfl
        exact (show Tryd.prog.wantsStandIn t = false by simpa using List.all_eq_true.1 hall t hm)⟩)
    (by kernel_rfl)

end Go.Proofs.YtfpmjncooelplaaDoor
