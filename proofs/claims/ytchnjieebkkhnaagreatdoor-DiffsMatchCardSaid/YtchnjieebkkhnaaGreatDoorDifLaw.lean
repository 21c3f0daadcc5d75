/-
  DiffsMatch: things, what differs between them, and what makes the one of the other, answer as the document says: for every lists of things and every operations that fit into memory.
-/
import Derived.Test.YtchnjieebkkhnaaGreatDoorDifWa1
import Derived.Test.YtchnjieebkkhnaaGreatDoorLawDoor
import Derived.Test.YtchnjieebkkhnaaGreatDoorDifPuDiffs
import Derived.Test.YtchnjieebkkhnaaGreatDoorCards
import Derived.Test.YtchnjieebkkhnaaGreatDoorTie
namespace Go.Proofs.YtchnjieebkkhnaaGreatDoor
open Go Go.DB Go.RowKit Go.ChangeShapes Go.WideShapes Go.ChangeAt
set_option maxRecDepth 100000
set_option linter.unusedSimpArgs false
set_option linter.unusedVariables false

theorem Tryz.own : ownKnob Tryz.prog.godebug = none := by kernel_rfl
theorem Tryz.laidOut : laidOutB Tryz.prog = true := by kernel_rfl

theorem rd9 : Reads Tryz.prog 9 Str := reads_str Tryz.underlying9
theorem ar9 : ArgOK Tryz.prog 9 Str := arg_str Tryz.underlying9
theorem rd49 : Reads Tryz.prog 49 Attr := reads_struct Tryz.underlying49 (.cons rfl (by kernel_rfl) rd9 (.one rfl (by kernel_rfl) rd9)) (by kernel_rfl) (fun b => ⟨⟨b.1, b.2⟩, rfl⟩)
theorem ar49 : ArgOK Tryz.prog 49 Attr := arg_struct Tryz.underlying49 rd49 rfl
theorem rd43 : Reads Tryz.prog 43 (List Attr) := reads_slice Tryz.underlying43 rd49 (by kernel_rfl)
theorem ar43 : ArgOK Tryz.prog 43 (List Attr) := arg_slice Tryz.underlying43 rd43
theorem rd45 : Reads Tryz.prog 45 Thing := reads_struct Tryz.underlying45 (.cons rfl (by kernel_rfl) rd9 (.one rfl (by kernel_rfl) rd43)) (by kernel_rfl) (fun b => ⟨⟨b.1, b.2⟩, rfl⟩)
theorem ar45 : ArgOK Tryz.prog 45 Thing := arg_struct Tryz.underlying45 rd45 rfl
theorem rd22 : Reads Tryz.prog 22 (List Thing) := reads_slice Tryz.underlying22 rd45 (by kernel_rfl)
theorem ar22 : ArgOK Tryz.prog 22 (List Thing) := arg_slice Tryz.underlying22 rd22
theorem rd3 : Reads Tryz.prog 3 Int := reads_int Tryz.underlying3
theorem ar3 : ArgOK Tryz.prog 3 Int := arg_int Tryz.underlying3
theorem rd32 : Reads Tryz.prog 32 Stamp := reads_struct Tryz.underlying32 (.cons rfl (by kernel_rfl) rd3 (.cons rfl (by kernel_rfl) rd9 (.one rfl (by kernel_rfl) rd3))) (by kernel_rfl) (fun b => ⟨⟨b.1, b.2.1, b.2.2⟩, rfl⟩)
theorem ar32 : ArgOK Tryz.prog 32 Stamp := arg_struct Tryz.underlying32 rd32 rfl
theorem rd34 : Reads Tryz.prog 34 DOp := reads_struct Tryz.underlying34 (.cons rfl (by kernel_rfl) rd32 (.cons rfl (by kernel_rfl) rd3 (.cons rfl (by kernel_rfl) rd9 (.cons rfl (by kernel_rfl) rd9 (.cons rfl (by kernel_rfl) rd9 (.one rfl (by kernel_rfl) rd3)))))) (by kernel_rfl) (fun b => ⟨⟨b.1, b.2.1, b.2.2.1, b.2.2.2.1, b.2.2.2.2.1, b.2.2.2.2.2⟩, rfl⟩)
theorem ar34 : ArgOK Tryz.prog 34 DOp := arg_struct Tryz.underlying34 rd34 rfl
theorem rd23 : Reads Tryz.prog 23 (List DOp) := reads_slice Tryz.underlying23 rd34 (by kernel_rfl)
theorem ar23 : ArgOK Tryz.prog 23 (List DOp) := arg_slice Tryz.underlying23 rd23

theorem DiffsMatch_calls (H : Type) (enc : TypeId × Value → H) (W : World) (base : Nat) (args : Array Value) (ds : List (DataW H)) (ps : List MemPlace) (hlow : Low NoM W)
    (hval : ∀ (j : Nat) t v, Tryz.f3.params[j]? = some t → args[j]? = some v → Value.okWide Tryz.prog W .any base t v)
    (hA : DataW.TrodAll enc Tryz.prog W 0 (fun _ => true) true Tryz.f3.params.toList args.toList ds ps)
    (hz : ∃ vt gs, (DataW.weightsEach Tryz.prog (Tryz.f3.params.toList ++ vt) (ds ++ gs)).all (· ≤ reachBytes) = true) : Gives Tryz.prog 3 args.toList NoM W (rep true) := by
  obtain ⟨vt, gs, hz⟩ := hz
  rw [Tryz.params3] at hA hval hz
  obtain ⟨v0, vs0, d0, ds0, p0, q0, ha0, rfl, rfl, h0, r0⟩ := trodAll_cons hA
  obtain ⟨v1, vs1, d1, ds1, p1, q1, rfl, rfl, rfl, h1, r1⟩ := trodAll_cons r0
  obtain ⟨v2, vs2, d2, ds2, p2, q2, rfl, rfl, rfl, h2, r2⟩ := trodAll_cons r1
  obtain ⟨rfl, rfl, rfl⟩ := trodAll_nil r2
  obtain ⟨x0, k0⟩ := ar22 H enc W base v0 d0 p0 (hval 0 22 v0 rfl (by rw [← Array.getElem?_toList, ha0]; rfl)) h0
  obtain ⟨x1, k1⟩ := ar22 H enc W base v1 d1 p1 (hval 1 22 v1 rfl (by rw [← Array.getElem?_toList, ha0]; rfl)) h1
  obtain ⟨x2, k2, z2⟩ := arg_sliceZ Tryz.underlying23 rd23 (hval 2 23 v2 rfl (by rw [← Array.getElem?_toList, ha0]; rfl)) h2
  have hs2 : fewL x2 := by
    rcases z2 with rfl | ⟨el, sp, rfl, hz1⟩
    · exact Nat.zero_le _
    · have h1 := sized_slice hz (j := 2) (t := 23) rfl rfl Tryz.underlying23
      rw [show Tryz.prog.bytesOf 34 = 96 from by kernel_rfl] at h1
      have h2 : reachBytes = 140737488351232 := by decide
      unfold fewL; omega
  rw [ha0]
  exact (law_DiffsMatch_ok (DiffsMatch_true x0 x1 x2 (rep_fits k0) (rep_fits k1) (rep_fits k2) hs2)).calls NoM W _ hlow ⟨k0, k1, k2, trivial⟩

theorem DiffsMatch_lifted (os : Os) (started : os.Started) (H : Type) (enc : TypeId × Value → H) :
    ReturnsInHanded {} Tryz.checked os 3 .any (fun w args => (Rows.diffsMatchSpec.pre enc Tryz.prog Tryz.f3 Rows.diffsMatchRow.domain false w args ∧ laidMetH Tryz.prog Rows.diffsMatchRow.laid w) ∧ sizedMet enc Tryz.prog Tryz.f3 (OpenSpec.ofChange Rows.diffsMatchSpec) false w args) (Rows.diffsMatchSpec.post enc Tryz.prog Tryz.f3 false true false false) := by
  refine returns_laidZ (C := Tryz.checked) (X := fun w _ => laidMetH Tryz.prog Rows.diffsMatchRow.laid w) (fun _ _ _ hh h => h.of_heap hh) Tryz.own started (by kernel_rfl) Tryz.func3
    (ChangeSpec.witness_shaped (enc := enc) (C := Tryz.checked) (os := os) (X := fun w _ => laidMetH Tryz.prog Rows.diffsMatchRow.laid w) false (World.laidAll Tryz.prog os Rows.diffsMatchRow.laid) #[.slice none 0 0, .slice none 0 0, .slice none 0 0] 8 (World.laidAll_os _ _ _)
      (World.shaped_of_ZipB (by kernel_rfl) (by kernel_rfl)) (by kernel_rfl) (by kernel_rfl) (by kernel_rfl)
      (by rw [MakeChecks.laidMetH_plain _ _ _ (by kernel_rfl)]; exact laidMet_laidAll _ (by kernel_rfl) (by kernel_rfl))) ?_
  intro W base args ds gs before hval hW hL hsh hz
  have hl : laidMet Tryz.prog Rows.diffsMatchRow.laid W := laidMet_plain hL (by kernel_rfl)
  have e1 : (Rows.laid_unicode_utf8_first : DataW Unit) = Go.Lib.firstData := by kernel_rfl
  have e2 : (Rows.laid_unicode_utf8_acceptRanges : DataW Unit) = Go.Lib.acceptData := by kernel_rfl
  have ht : Go.Lib.Utf8Tabs gFirst gAcc W := Proofs.utf8Tabs_of_readsT (Proofs.U8Types.of196 validStr_lay) ⟨by kernel_rfl, by kernel_rfl, by kernel_rfl, by kernel_rfl, by kernel_rfl, by kernel_rfl, by kernel_rfl⟩ (e1 ▸ Go.Lib.laidMet.reads hl (.tail _ (.head _))) (e2 ▸ Go.Lib.laidMet.reads hl (.head _))
  have hx : ∃ m, W.cell? ⟨gMax, 0, none⟩ = some (.int .i64 m) := Proofs.cell_of_shapedOpen_int (t := 3) (zero := #[.int .i64 0]) hsh (of_decide_eq_true (by kernel_rfl)) (by kernel_rfl) rfl (by kernel_rfl) (by kernel_rfl) Tryz.underlying3
  have hr : Tryz.f3.params.toList.all (fun t => Tryz.prog.readableRec t && decide (t < Tryz.prog.types.size)) = true := by kernel_rfl
  refine law_postZ (Z := fun H ds => ∃ vt gs, (DataW.weightsEach Tryz.prog (Tryz.f3.params.toList ++ vt) (ds ++ gs)).all (· ≤ reachBytes) = true) (P := Tryz.prog) (B := 4) (s := Rows.diffsMatchSpec) rfl (by kernel_rfl) Tryz.underlying4 Tryz.laidOut (fun t ht => by have := List.all_eq_true.1 hr t ht; simpa using this) ?_ DiffsMatch_calls H enc W base args ds gs before (Low.start (fun k h => h) ht hx) hval hW ⟨_, _, hz⟩
  intro H ds hd
  rw [Tryz.params3] at hd
  match ds, hd with
  | [e0, e1, e2], _ => rfl

theorem DiffsMatch_holds : Rows.DiffsMatchSaid :=
  OpenClaim.holds_of_wide 3 Tryz.f3 rfl rfl rfl rfl rfl rfl rfl ⟨rfl, rfl, rfl, rfl, rfl⟩ rfl rfl rfl rfl rfl (by kernel_rfl) Tryz.func3 (by kernel_rfl)
    (of_decide_eq_true (by kernel_rfl)) (by unfold Func.isWrapper; rw [if_neg (of_decide_eq_false (by kernel_rfl))]; exact ⟨rfl, rfl⟩)
    (fun os started H enc _ => DiffsMatch_lifted os started H enc)

theorem DiffsMatch_card : Rows.DiffsMatchCardSaid :=
  Claim7.holds_tied_plain_at .later [] [.data, .pinned] true (true, "8ad2e89aada4c97eeb746872d3004786881c5f6cd2449446b32e5eee989808f6") false DiffsMatch_holds (fun _ h => by cases h) (by kernel_rfl) (fun _ h => by cases h) diffsMatch_row_tie rfl ⟨rfl, rfl⟩ (by kernel_rfl) rfl
    (fun f fn hf hfn => by
      obtain rfl : f = 3 := Option.some.inj ((show Tryz.prog.funcNamed "drawboard/drawlaw1.DiffsMatch" = some 3 by kernel_rfl).symm.trans hf) |>.symm
      obtain rfl : fn = Tryz.f3 := (Option.some.inj (Tryz.func3.symm.trans hfn)).symm
      exact ⟨by kernel_rfl, fun j t ht => by
        rw [Tryz.params3] at ht
        have hm : t ∈ [22, 22, 23] := by simpa using Array.mem_of_getElem? ht
        have hall : ([22, 22, 23].all fun u => !Tryz.prog.wantsStandIn u) = true := by kernel_rfl
        exact (show Tryz.prog.wantsStandIn t = false by simpa using List.all_eq_true.1 hall t hm)⟩)
    (by kernel_rfl)

end Go.Proofs.YtchnjieebkkhnaaGreatDoor
