/-
  TopNoBetterWay: no right path is better than Route's, and both ways round it is as good, for every task and path.
-/
import Derived.Test.YtjkfpjpepjjhlaaTnbWa1
import Derived.Test.YtjkfpjpepjjhlaaLaw
import Derived.Test.YtjkfpjpepjjhlaaTnbPuTurnT
namespace Go.Proofs.Ytjkfpjpepjjhlaa
open Go Go.DB Go.RowKit Go.ChangeShapes Go.WideShapes Go.ChangeAt
set_option maxRecDepth 100000
set_option linter.unusedSimpArgs false
set_option linter.unusedVariables false

theorem Try.own : ownKnob Try.prog.godebug = none := by kernel_rfl
theorem Try.laidOut : laidOutB Try.prog = true := by kernel_rfl

theorem rd3 : Reads Try.prog 3 Int := reads_int Try.underlying3
theorem ar3 : ArgOK Try.prog 3 Int := arg_int Try.underlying3
theorem rd23 : Reads Try.prog 23 Point := reads_struct Try.underlying23 (.cons rfl (by kernel_rfl) rd3 (.one rfl (by kernel_rfl) rd3)) (by kernel_rfl) (fun b => ⟨⟨b.1, b.2⟩, rfl⟩)
theorem ar23 : ArgOK Try.prog 23 Point := arg_struct Try.underlying23 rd23 rfl
theorem rd70 : Reads Try.prog 70 Box := reads_struct Try.underlying70 (.cons rfl (by kernel_rfl) rd3 (.cons rfl (by kernel_rfl) rd3 (.cons rfl (by kernel_rfl) rd3 (.one rfl (by kernel_rfl) rd3)))) (by kernel_rfl) (fun b => ⟨⟨b.1, b.2.1, b.2.2.1, b.2.2.2⟩, rfl⟩)
theorem ar70 : ArgOK Try.prog 70 Box := arg_struct Try.underlying70 rd70 rfl
theorem rd24 : Reads Try.prog 24 (List Box) := reads_slice Try.underlying24 rd70 (by kernel_rfl)
theorem ar24 : ArgOK Try.prog 24 (List Box) := arg_slice Try.underlying24 rd24
theorem rd26 : Reads Try.prog 26 Task := reads_struct Try.underlying26 (.cons rfl (by kernel_rfl) rd23 (.cons rfl (by kernel_rfl) rd3 (.cons rfl (by kernel_rfl) rd23 (.cons rfl (by kernel_rfl) rd3 (.cons rfl (by kernel_rfl) rd24 (.one rfl (by kernel_rfl) rd3)))))) (by kernel_rfl) (fun b => ⟨⟨b.1, b.2.1, b.2.2.1, b.2.2.2.1, b.2.2.2.2.1, b.2.2.2.2.2⟩, rfl⟩)
theorem ar26 : ArgOK Try.prog 26 Task := arg_struct Try.underlying26 rd26 rfl
theorem rd27 : Reads Try.prog 27 (List Point) := reads_slice Try.underlying27 rd23 (by kernel_rfl)
theorem ar27 : ArgOK Try.prog 27 (List Point) := arg_slice Try.underlying27 rd27

theorem TopNoBetterWay_calls (H : Type) (enc : TypeId × Value → H) (W : World) (base : Nat) (args : Array Value) (ds : List (DataW H)) (ps : List MemPlace) (hlow : Low NoM W)
    (hval : ∀ (j : Nat) t v, Try.f3.params[j]? = some t → args[j]? = some v → Value.okWide Try.prog W .any base t v)
    (hA : DataW.TrodAll enc Try.prog W 0 (fun _ => true) true Try.f3.params.toList args.toList ds ps) : Gives Try.prog 3 args.toList NoM W (rep true) := by
  rw [Try.params3] at hA hval
  obtain ⟨v0, vs0, d0, ds0, p0, q0, ha0, rfl, rfl, h0, r0⟩ := trodAll_cons hA
  obtain ⟨v1, vs1, d1, ds1, p1, q1, rfl, rfl, rfl, h1, r1⟩ := trodAll_cons r0
  obtain ⟨rfl, rfl, rfl⟩ := trodAll_nil r1
  obtain ⟨x0, k0⟩ := ar26 H enc W base v0 d0 p0 (hval 0 26 v0 rfl (by rw [← Array.getElem?_toList, ha0]; rfl)) h0
  obtain ⟨x1, k1⟩ := ar27 H enc W base v1 d1 p1 (hval 1 27 v1 rfl (by rw [← Array.getElem?_toList, ha0]; rfl)) h1
  rw [ha0]
  exact (top_TopNoBetterWay_ok (TopNoBetterWay_true x0 x1 (rep_fits k0))).calls NoM W _ hlow ⟨k0, k1, trivial⟩

theorem TopNoBetterWay_lifted (os : Os) (started : os.Started) (H : Type) (enc : TypeId × Value → H) :
    ReturnsInHanded {} Try.checked os 3 .any (Rows.topNoBetterWaySpec.pre6 enc Try.prog Try.f3 Rows.topNoBetterWayRow.domain false) (Rows.topNoBetterWaySpec.post enc Try.prog Try.f3 false true false false) := by
  refine returnsInHanded_of_change (C := Try.checked) Try.own started (by kernel_rfl) Try.func3 (ChangeSpec.witness6 (enc := enc) (C := Try.checked) false ⟨#[], #[.agg #[.int .i64 0, .int .i64 0, .int .i64 0, .int .i64 0, .int .i64 0, .int .i64 0, .slice none 0 0, .int .i64 0], .slice none 0 0], []⟩ 8 (by kernel_rfl) (by kernel_rfl) (by kernel_rfl) (by kernel_rfl)) ?_
  intro W base args ds gs before hval hW _ _
  have hr : Try.f3.params.toList.all (fun t => Try.prog.readableRec t && decide (t < Try.prog.types.size)) = true := by kernel_rfl
  refine law_post (P := Try.prog) (B := 4) (s := Rows.topNoBetterWaySpec) rfl (by kernel_rfl) Try.underlying4 Try.laidOut (fun t ht => by have := List.all_eq_true.1 hr t ht; simpa using this) ?_ TopNoBetterWay_calls H enc W base args ds gs before (Low.start (fun k h => h)) hval hW
  intro H ds hd
  rw [Try.params3] at hd
  match ds, hd with
  | [e0, e1], _ => rfl

theorem TopNoBetterWay_holds : Rows.TopNoBetterWaySaid :=
  OpenClaim.holds_of_wide 3 Try.f3 rfl rfl rfl rfl rfl rfl rfl ⟨rfl, rfl, rfl, rfl, rfl⟩ rfl rfl rfl rfl rfl (by kernel_rfl) Try.func3 (by kernel_rfl)
    (of_decide_eq_true (by kernel_rfl)) (by unfold Func.isWrapper; rw [if_neg (of_decide_eq_false (by kernel_rfl))]; exact ⟨rfl, rfl⟩)
    (fun os started H enc _ => TopNoBetterWay_lifted os started H enc)

end Go.Proofs.Ytjkfpjpepjjhlaa
