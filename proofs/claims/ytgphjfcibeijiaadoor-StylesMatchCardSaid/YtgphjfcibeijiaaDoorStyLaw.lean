/-
  desk.CheckRules and desk.Style agree with the reference on all rules and classes: rules of styles.
-/
import Derived.Test.YtgphjfcibeijiaaDoorStyWa1
import Derived.Test.YtgphjfcibeijiaaDoorLawDoor
import Derived.Test.YtgphjfcibeijiaaDoorStyPuStyles
import Derived.Test.YtgphjfcibeijiaaDoorCards
import Derived.Test.YtgphjfcibeijiaaDoorTie
namespace Go.Proofs.YtgphjfcibeijiaaDoor
open Go Go.DB Go.RowKit Go.ChangeShapes Go.WideShapes Go.ChangeAt
set_option maxRecDepth 100000
set_option linter.unusedSimpArgs false
set_option linter.unusedVariables false

theorem Tryd.own : ownKnob Tryd.prog.godebug = none := by kernel_rfl
theorem Tryd.laidOut : laidOutB Tryd.prog = true := by kernel_rfl

theorem rd9 : Reads Tryd.prog 9 Str := reads_str Tryd.underlying9
theorem ar9 : ArgOK Tryd.prog 9 Str := arg_str Tryd.underlying9
theorem rd39 : Reads Tryd.prog 39 Rule := reads_struct Tryd.underlying39 (.cons rfl (by kernel_rfl) rd9 (.cons rfl (by kernel_rfl) rd9 (.one rfl (by kernel_rfl) rd9))) (by kernel_rfl) (fun b => ⟨⟨b.1, b.2.1, b.2.2⟩, rfl⟩)
theorem ar39 : ArgOK Tryd.prog 39 Rule := arg_struct Tryd.underlying39 rd39 rfl
theorem rd22 : Reads Tryd.prog 22 (List Rule) := reads_slice Tryd.underlying22 rd39 (by kernel_rfl)
theorem ar22 : ArgOK Tryd.prog 22 (List Rule) := arg_slice Tryd.underlying22 rd22

theorem StylesMatch_calls (H : Type) (enc : TypeId × Value → H) (W : World) (base : Nat) (args : Array Value) (ds : List (DataW H)) (ps : List MemPlace) (hlow : Low NoM W)
    (hval : ∀ (j : Nat) t v, Tryd.f3.params[j]? = some t → args[j]? = some v → Value.okWide Tryd.prog W .any base t v)
    (hA : DataW.TrodAll enc Tryd.prog W 0 (fun _ => true) true Tryd.f3.params.toList args.toList ds ps) : Gives Tryd.prog 3 args.toList NoM W (rep true) := by
  rw [Tryd.params3] at hA hval
  obtain ⟨v0, vs0, d0, ds0, p0, q0, ha0, rfl, rfl, h0, r0⟩ := trodAll_cons hA
  obtain ⟨v1, vs1, d1, ds1, p1, q1, rfl, rfl, rfl, h1, r1⟩ := trodAll_cons r0
  obtain ⟨rfl, rfl, rfl⟩ := trodAll_nil r1
  obtain ⟨x0, k0⟩ := ar22 H enc W base v0 d0 p0 (hval 0 22 v0 rfl (by rw [← Array.getElem?_toList, ha0]; rfl)) h0
  obtain ⟨x1, k1⟩ := ar9 H enc W base v1 d1 p1 (hval 1 9 v1 rfl (by rw [← Array.getElem?_toList, ha0]; rfl)) h1
  rw [ha0]
  exact (law_StylesMatch_ok (StylesMatch_true x0 x1 (rep_fits k0) (rep_fits k1))).calls NoM W _ hlow ⟨k0, k1, trivial⟩

def utf8R : Shelf.Ren where
  f := fun x => x
  t := fun x => match x with | 5 => 5 | 119 => 89 | 138 => 91 | 139 => 92 | n => n
  g := fun x => match x with | 3 => gFirst | 4 => gAcc | n => n
theorem utf8T : Proofs.U8Types Tryd.prog utf8R := ⟨by kernel_rfl, by kernel_rfl, by kernel_rfl, by kernel_rfl⟩
theorem StylesMatch_lifted (os : Os) (started : os.Started) (H : Type) (enc : TypeId × Value → H) :
    ReturnsInHanded {} Tryd.checked os 3 .any (fun w args => (Rows.stylesMatchSpec.pre enc Tryd.prog Tryd.f3 Rows.stylesMatchRow.domain false w args ∧ laidMetH Tryd.prog Rows.stylesMatchRow.laid w) ∧ sizedMet enc Tryd.prog Tryd.f3 (OpenSpec.ofChange Rows.stylesMatchSpec) false w args) (Rows.stylesMatchSpec.post enc Tryd.prog Tryd.f3 false true false false) := by
  refine returns_laid (C := Tryd.checked) (X := fun w _ => laidMetH Tryd.prog Rows.stylesMatchRow.laid w) (fun _ _ _ hh h => h.of_heap hh) Tryd.own started (by kernel_rfl) Tryd.func3
    (ChangeSpec.witness_shaped (enc := enc) (C := Tryd.checked) (os := os) (X := fun w _ => laidMetH Tryd.prog Rows.stylesMatchRow.laid w) false (World.laidAll Tryd.prog os Rows.stylesMatchRow.laid) #[.slice none 0 0, .string ByteArray.empty] 8 (World.laidAll_os _ _ _)
      (World.shaped_of_ZipB (by kernel_rfl) (by kernel_rfl)) (by kernel_rfl) (by kernel_rfl) (by kernel_rfl)
      (by rw [MakeChecks.laidMetH_plain _ _ _ (by kernel_rfl)]; exact laidMet_laidAll _ (by kernel_rfl) (by kernel_rfl))) ?_
  intro W base args ds gs before hval hW hL hsh
  have hl : laidMet Tryd.prog Rows.stylesMatchRow.laid W := laidMet_plain hL (by kernel_rfl)
  have e1 : (Rows.laid_unicode_utf8_first : DataW Unit) = Go.Lib.firstData := by kernel_rfl
  have e2 : (Rows.laid_unicode_utf8_acceptRanges : DataW Unit) = Go.Lib.acceptData := by kernel_rfl
  have ht : Go.Lib.Utf8Tabs gFirst gAcc W := Proofs.utf8Tabs_of_readsT utf8T ⟨by kernel_rfl, by kernel_rfl, by kernel_rfl, by kernel_rfl, by kernel_rfl, by kernel_rfl, by kernel_rfl⟩ (e1 ▸ Go.Lib.laidMet.reads hl (.tail _ (.head _))) (e2 ▸ Go.Lib.laidMet.reads hl (.head _))
  have hx : ∃ m, W.cell? ⟨gMax, 0, none⟩ = some (.int .i64 m) := Proofs.cell_of_shapedOpen_int (t := 3) (zero := #[.int .i64 0]) hsh (of_decide_eq_true (by kernel_rfl)) (by kernel_rfl) rfl (by kernel_rfl) (by kernel_rfl) Tryd.underlying3
  have hr : Tryd.f3.params.toList.all (fun t => Tryd.prog.readableRec t && decide (t < Tryd.prog.types.size)) = true := by kernel_rfl
  refine law_post (P := Tryd.prog) (B := 4) (s := Rows.stylesMatchSpec) rfl (by kernel_rfl) Tryd.underlying4 Tryd.laidOut (fun t ht => by have := List.all_eq_true.1 hr t ht; simpa using this) ?_ StylesMatch_calls H enc W base args ds gs before (Low.start (fun k h => h) ht hx) hval hW
  intro H ds hd
  rw [Tryd.params3] at hd
  match ds, hd with
  | [e0, e1], _ => rfl

theorem StylesMatch_holds : Rows.StylesMatchSaid :=
  OpenClaim.holds_of_wide 3 Tryd.f3 rfl rfl rfl rfl rfl rfl rfl ⟨rfl, rfl, rfl, rfl, rfl⟩ rfl rfl rfl rfl rfl (by kernel_rfl) Tryd.func3 (by kernel_rfl)
    (of_decide_eq_true (by kernel_rfl)) (by unfold Func.isWrapper; rw [if_neg (of_decide_eq_false (by kernel_rfl))]; exact ⟨rfl, rfl⟩)
    (fun os started H enc _ => StylesMatch_lifted os started H enc)

theorem StylesMatch_card : Rows.StylesMatchCardSaid :=
  Claim7.holds_tied_plain_at .later [] [.data, .pinned] true (true, "3428e62eddb610bb12702598ef77e2df05efd352518b5294a2e10cec5e6b74be") false StylesMatch_holds (fun _ h => by cases h) (by kernel_rfl) (fun _ h => by cases h) stylesMatch_row_tie rfl ⟨rfl, rfl⟩ (by kernel_rfl) rfl
    (fun f fn hf hfn => by
      obtain rfl : f = 3 := Option.some.inj ((show Tryd.prog.funcNamed "drawboard/drawlaw1.StylesMatch" = some 3 by kernel_rfl).symm.trans hf) |>.symm
      obtain rfl : fn = Tryd.f3 := (Option.some.inj (Tryd.func3.symm.trans hfn)).symm
      exact ⟨by kernel_rfl, fun j t ht => by
        rw [Tryd.params3] at ht
        have hm : t ∈ [22, 9] := by simpa using Array.mem_of_getElem? ht
        have hall : ([22, 9].all fun u => !Tryd.prog.wantsStandIn u) = true := by kernel_rfl
        exact (show Tryd.prog.wantsStandIn t = false by simpa using List.all_eq_true.1 hall t hm)⟩)
    (by kernel_rfl)

end Go.Proofs.YtgphjfcibeijiaaDoor
