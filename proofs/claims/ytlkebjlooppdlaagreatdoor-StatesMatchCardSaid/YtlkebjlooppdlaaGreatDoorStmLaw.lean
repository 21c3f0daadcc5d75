/-
  Operations, which of them count, and what there is: the program answers as the document says, for every list of operations.
-/
import Derived.Test.YtlkebjlooppdlaaGreatDoorStmWa1
import Derived.Test.YtlkebjlooppdlaaGreatDoorLawDoor
import Derived.Test.YtlkebjlooppdlaaGreatDoorStmPuStates
import Derived.Test.YtlkebjlooppdlaaGreatDoorCards
import Derived.Test.YtlkebjlooppdlaaGreatDoorTie
namespace Go.Proofs.YtlkebjlooppdlaaGreatDoor
open Go Go.DB Go.RowKit Go.ChangeShapes Go.WideShapes Go.ChangeAt
set_option maxRecDepth 100000
set_option linter.unusedSimpArgs false
set_option linter.unusedVariables false

theorem Tryz.own : ownKnob Tryz.prog.godebug = none := by kernel_rfl
theorem Tryz.laidOut : laidOutB Tryz.prog = true := by kernel_rfl

theorem rd3 : Reads Tryz.prog 3 Int := reads_int Tryz.underlying3
theorem ar3 : ArgOK Tryz.prog 3 Int := arg_int Tryz.underlying3
theorem rd9 : Reads Tryz.prog 9 Str := reads_str Tryz.underlying9
theorem ar9 : ArgOK Tryz.prog 9 Str := arg_str Tryz.underlying9
theorem rd40 : Reads Tryz.prog 40 Stamp := reads_struct Tryz.underlying40 (.cons rfl (by kernel_rfl) rd3 (.cons rfl (by kernel_rfl) rd9 (.one rfl (by kernel_rfl) rd3))) (by kernel_rfl) (fun b => ⟨⟨b.1, b.2.1, b.2.2⟩, rfl⟩)
theorem ar40 : ArgOK Tryz.prog 40 Stamp := arg_struct Tryz.underlying40 rd40 rfl
theorem rd42 : Reads Tryz.prog 42 DOp := reads_struct Tryz.underlying42 (.cons rfl (by kernel_rfl) rd40 (.cons rfl (by kernel_rfl) rd3 (.cons rfl (by kernel_rfl) rd9 (.cons rfl (by kernel_rfl) rd9 (.cons rfl (by kernel_rfl) rd9 (.one rfl (by kernel_rfl) rd3)))))) (by kernel_rfl) (fun b => ⟨⟨b.1, b.2.1, b.2.2.1, b.2.2.2.1, b.2.2.2.2.1, b.2.2.2.2.2⟩, rfl⟩)
theorem ar42 : ArgOK Tryz.prog 42 DOp := arg_struct Tryz.underlying42 rd42 rfl
theorem rd22 : Reads Tryz.prog 22 (List DOp) := reads_slice Tryz.underlying22 rd42 (by kernel_rfl)
theorem ar22 : ArgOK Tryz.prog 22 (List DOp) := arg_slice Tryz.underlying22 rd22

theorem StatesMatch_calls (H : Type) (enc : TypeId × Value → H) (W : World) (base : Nat) (args : Array Value) (ds : List (DataW H)) (ps : List MemPlace) (hlow : Low NoM W)
    (hval : ∀ (j : Nat) t v, Tryz.f3.params[j]? = some t → args[j]? = some v → Value.okWide Tryz.prog W .any base t v)
    (hA : DataW.TrodAll enc Tryz.prog W 0 (fun _ => true) true Tryz.f3.params.toList args.toList ds ps) : Gives Tryz.prog 3 args.toList NoM W (rep true) := by
  rw [Tryz.params3] at hA hval
  obtain ⟨v0, vs0, d0, ds0, p0, q0, ha0, rfl, rfl, h0, r0⟩ := trodAll_cons hA
  obtain ⟨rfl, rfl, rfl⟩ := trodAll_nil r0
  obtain ⟨x0, k0⟩ := ar22 H enc W base v0 d0 p0 (hval 0 22 v0 rfl (by rw [← Array.getElem?_toList, ha0]; rfl)) h0
  rw [ha0]
  exact (law_StatesMatch_ok (StatesMatch_true x0 (rep_fits k0))).calls NoM W _ hlow ⟨k0, trivial⟩

theorem StatesMatch_lifted (os : Os) (started : os.Started) (H : Type) (enc : TypeId × Value → H) :
    ReturnsInHanded {} Tryz.checked os 3 .any (fun w args => (Rows.statesMatchSpec.pre enc Tryz.prog Tryz.f3 Rows.statesMatchRow.domain false w args ∧ laidMetH Tryz.prog Rows.statesMatchRow.laid w) ∧ sizedMet enc Tryz.prog Tryz.f3 (OpenSpec.ofChange Rows.statesMatchSpec) false w args) (Rows.statesMatchSpec.post enc Tryz.prog Tryz.f3 false true false false) := by
  refine returns_laid (C := Tryz.checked) (X := fun w _ => laidMetH Tryz.prog Rows.statesMatchRow.laid w) (fun _ _ _ hh h => h.of_heap hh) Tryz.own started (by kernel_rfl) Tryz.func3
    (ChangeSpec.witness_shaped (enc := enc) (C := Tryz.checked) (os := os) (X := fun w _ => laidMetH Tryz.prog Rows.statesMatchRow.laid w) false (World.laidAll Tryz.prog os Rows.statesMatchRow.laid) #[.slice none 0 0] 8 (World.laidAll_os _ _ _)
      (World.shaped_of_ZipB (by kernel_rfl) (by kernel_rfl)) (by kernel_rfl) (by kernel_rfl) (by kernel_rfl)
      (by rw [MakeChecks.laidMetH_plain _ _ _ (by kernel_rfl)]; exact laidMet_laidAll _ (by kernel_rfl) (by kernel_rfl))) ?_
  intro W base args ds gs before hval hW hL hsh
  have hl : laidMet Tryz.prog Rows.statesMatchRow.laid W := laidMet_plain hL (by kernel_rfl)
  have e1 : (Rows.laid_unicode_utf8_first : DataW Unit) = Go.Lib.firstData := by kernel_rfl
  have e2 : (Rows.laid_unicode_utf8_acceptRanges : DataW Unit) = Go.Lib.acceptData := by kernel_rfl
  have ht : Go.Lib.Utf8Tabs gFirst gAcc W := Proofs.utf8Tabs_of_readsT (Proofs.U8Types.of196 validStr_lay) ⟨by kernel_rfl, by kernel_rfl, by kernel_rfl, by kernel_rfl, by kernel_rfl, by kernel_rfl, by kernel_rfl⟩ (e1 ▸ Go.Lib.laidMet.reads hl (.tail _ (.head _))) (e2 ▸ Go.Lib.laidMet.reads hl (.head _))
  have hx : ∃ m, W.cell? ⟨gMax, 0, none⟩ = some (.int .i64 m) := Proofs.cell_of_shapedOpen_int (t := 3) (zero := #[.int .i64 0]) hsh (of_decide_eq_true (by kernel_rfl)) (by kernel_rfl) rfl (by kernel_rfl) (by kernel_rfl) Tryz.underlying3
  have hr : Tryz.f3.params.toList.all (fun t => Tryz.prog.readableRec t && decide (t < Tryz.prog.types.size)) = true := by kernel_rfl
  refine law_post (P := Tryz.prog) (B := 4) (s := Rows.statesMatchSpec) rfl (by kernel_rfl) Tryz.underlying4 Tryz.laidOut (fun t ht => by have := List.all_eq_true.1 hr t ht; simpa using this) ?_ StatesMatch_calls H enc W base args ds gs before (Low.start (fun k h => h) ht hx) hval hW
  intro H ds hd
  rw [Tryz.params3] at hd
  match ds, hd with
  | [e0], _ => rfl

theorem StatesMatch_holds : Rows.StatesMatchSaid :=
  OpenClaim.holds_of_wide 3 Tryz.f3 rfl rfl rfl rfl rfl rfl rfl ⟨rfl, rfl, rfl, rfl, rfl⟩ rfl rfl rfl rfl rfl (by kernel_rfl) Tryz.func3 (by kernel_rfl)
    (of_decide_eq_true (by kernel_rfl)) (by unfold Func.isWrapper; rw [if_neg (of_decide_eq_false (by kernel_rfl))]; exact ⟨rfl, rfl⟩)
    (fun os started H enc _ => StatesMatch_lifted os started H enc)

theorem StatesMatch_card : Rows.StatesMatchCardSaid :=
  Claim7.holds_tied_plain_at .later [] [.data, .pinned] true (true, "e241b57b534ace16a482287a3e6b55634a3af2a93225d50919a5004dacb98df9") false StatesMatch_holds (fun _ h => by cases h) (by kernel_rfl) (fun _ h => by cases h) statesMatch_row_tie rfl ⟨rfl, rfl⟩ (by kernel_rfl) rfl
    (fun f fn hf hfn => by
      obtain rfl : f = 3 := Option.some.inj ((show Tryz.prog.funcNamed "drawboard/drawlaw1.StatesMatch" = some 3 by kernel_rfl).symm.trans hf) |>.symm
      obtain rfl : fn = Tryz.f3 := (Option.some.inj (Tryz.func3.symm.trans hfn)).symm
      exact ⟨by kernel_rfl, fun j t ht => by
        rw [Tryz.params3] at ht
        have hm : t ∈ [22] := by simpa using Array.mem_of_getElem? ht
        have hall : ([22].all fun u => !Tryz.prog.wantsStandIn u) = true := by kernel_rfl
        exact (show Tryz.prog.wantsStandIn t = false by simpa using List.all_eq_true.1 hall t hm)⟩)
    (by kernel_rfl)

end Go.Proofs.YtlkebjlooppdlaaGreatDoor
