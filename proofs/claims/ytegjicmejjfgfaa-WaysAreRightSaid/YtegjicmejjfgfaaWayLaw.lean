/-
  tasks, and which paths are right for them.
-/
import Derived.Test.YtegjicmejjfgfaaWayWa2
import Derived.Test.YtegjicmejjfgfaaLaw
import Derived.Test.YtegjicmejjfgfaaWayPuRight
namespace Go.Proofs.Ytegjicmejjfgfaa
open Go Go.DB Go.RowKit Go.ChangeShapes Go.WideShapes Go.ChangeAt
set_option maxRecDepth 100000
set_option linter.unusedSimpArgs false
set_option linter.unusedVariables false

theorem Try.own : ownKnob Try.prog.godebug = none := by kernel_rfl
theorem Try.laidOut : laidOutB Try.prog = true := by kernel_rfl

theorem rd3 : Reads Try.prog 3 Int := reads_int Try.underlying3
theorem ar3 : ArgOK Try.prog 3 Int := arg_int Try.underlying3
theorem rd53 : Reads Try.prog 53 Point := reads_struct Try.underlying53 (.cons rfl (by kernel_rfl) rd3 (.one rfl (by kernel_rfl) rd3)) (by kernel_rfl) (fun b => ⟨⟨b.1, b.2⟩, rfl⟩)
theorem ar53 : ArgOK Try.prog 53 Point := arg_struct Try.underlying53 rd53 rfl
theorem rd25 : Reads Try.prog 25 Box := reads_struct Try.underlying25 (.cons rfl (by kernel_rfl) rd3 (.cons rfl (by kernel_rfl) rd3 (.cons rfl (by kernel_rfl) rd3 (.one rfl (by kernel_rfl) rd3)))) (by kernel_rfl) (fun b => ⟨⟨b.1, b.2.1, b.2.2.1, b.2.2.2⟩, rfl⟩)
theorem ar25 : ArgOK Try.prog 25 Box := arg_struct Try.underlying25 rd25 rfl
theorem rd23 : Reads Try.prog 23 (List Box) := reads_slice Try.underlying23 rd25 (by kernel_rfl)
theorem ar23 : ArgOK Try.prog 23 (List Box) := arg_slice Try.underlying23 rd23
theorem rd55 : Reads Try.prog 55 Task := reads_struct Try.underlying55 (.cons rfl (by kernel_rfl) rd53 (.cons rfl (by kernel_rfl) rd3 (.cons rfl (by kernel_rfl) rd53 (.cons rfl (by kernel_rfl) rd3 (.cons rfl (by kernel_rfl) rd23 (.one rfl (by kernel_rfl) rd3)))))) (by kernel_rfl) (fun b => ⟨⟨b.1, b.2.1, b.2.2.1, b.2.2.2.1, b.2.2.2.2.1, b.2.2.2.2.2⟩, rfl⟩)
theorem ar55 : ArgOK Try.prog 55 Task := arg_struct Try.underlying55 rd55 rfl
theorem rd22 : Reads Try.prog 22 (List Point) := reads_slice Try.underlying22 rd53 (by kernel_rfl)
theorem ar22 : ArgOK Try.prog 22 (List Point) := arg_slice Try.underlying22 rd22

theorem WaysAreRight_calls (H : Type) (enc : TypeId × Value → H) (W : World) (base : Nat) (args : Array Value) (ds : List (DataW H)) (ps : List MemPlace)
    (hval : ∀ (j : Nat) t v, Try.f5.params[j]? = some t → args[j]? = some v → Value.okWide Try.prog W .any base t v)
    (hA : DataW.TrodAll enc Try.prog W 0 (fun _ => true) true Try.f5.params.toList args.toList ds ps) : Gives Try.prog 5 args.toList NoM W (rep true) := by
  rw [Try.params5] at hA hval
  obtain ⟨v0, vs0, d0, ds0, p0, q0, ha0, rfl, rfl, h0, r0⟩ := trodAll_cons hA
  obtain ⟨v1, vs1, d1, ds1, p1, q1, rfl, rfl, rfl, h1, r1⟩ := trodAll_cons r0
  obtain ⟨rfl, rfl, rfl⟩ := trodAll_nil r1
  obtain ⟨x0, k0⟩ := ar55 H enc W base v0 d0 p0 (hval 0 55 v0 rfl (by rw [← Array.getElem?_toList, ha0]; rfl)) h0
  obtain ⟨x1, k1⟩ := ar22 H enc W base v1 d1 p1 (hval 1 22 v1 rfl (by rw [← Array.getElem?_toList, ha0]; rfl)) h1
  rw [ha0]
  exact (law_WaysAreRight_ok (WaysAreRight_true x0 x1 (rep_fits k0))).calls NoM W _ (fun k h => h.elim) ⟨k0, k1, trivial⟩

theorem WaysAreRight_lifted (os : Os) (started : os.Started) (H : Type) (enc : TypeId × Value → H) :
    ReturnsInHanded {} Try.checked os 5 .any (Rows.waysAreRightSpec.pre6 enc Try.prog Try.f5 Rows.waysAreRightRow.domain false) (Rows.waysAreRightSpec.post enc Try.prog Try.f5 false true false false) := by
  refine returnsInHanded_of_change (C := Try.checked) Try.own started (by kernel_rfl) Try.func5 (ChangeSpec.witness6 (enc := enc) (C := Try.checked) false ⟨#[], #[.agg #[.int .i64 0, .int .i64 0, .int .i64 0, .int .i64 0, .int .i64 0, .int .i64 0, .slice none 0 0, .int .i64 0], .slice none 0 0], []⟩ 8 (by kernel_rfl) (by kernel_rfl) (by kernel_rfl) (by kernel_rfl)) ?_
  intro W base args ds gs before hval hW _ _
  have hr : Try.f5.params.toList.all (fun t => Try.prog.readableRec t && decide (t < Try.prog.types.size)) = true := by kernel_rfl
  refine law_post (P := Try.prog) (B := 4) (s := Rows.waysAreRightSpec) rfl (by kernel_rfl) Try.underlying4 Try.laidOut (fun t ht => by have := List.all_eq_true.1 hr t ht; simpa using this) ?_ WaysAreRight_calls H enc W base args ds gs before hval hW
  intro H ds hd
  rw [Try.params5] at hd
  match ds, hd with
  | [e0, e1], _ => rfl

theorem WaysAreRight_holds : Rows.WaysAreRightSaid :=
  OpenClaim.holds_of_wide 5 Try.f5 rfl rfl rfl rfl rfl rfl rfl ⟨rfl, rfl, rfl, rfl, rfl⟩ rfl rfl rfl rfl rfl (by kernel_rfl) Try.func5 (by kernel_rfl)
    (of_decide_eq_true (by kernel_rfl)) (by unfold Func.isWrapper; rw [if_neg (of_decide_eq_false (by kernel_rfl))]; exact ⟨rfl, rfl⟩)
    (fun os started H enc _ => WaysAreRight_lifted os started H enc)

end Go.Proofs.Ytegjicmejjfgfaa
