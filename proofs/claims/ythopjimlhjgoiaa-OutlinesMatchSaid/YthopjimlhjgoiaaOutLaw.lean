/-
  Outlines, ports, and sides that face each other: the code and the reference agree.
-/
import Derived.Test.YthopjimlhjgoiaaOutWa2
import Derived.Test.YthopjimlhjgoiaaLaw
import Derived.Test.YthopjimlhjgoiaaOutPuOut
namespace Go.Proofs.Ythopjimlhjgoiaa
open Go Go.DB Go.RowKit Go.ChangeShapes Go.WideShapes Go.ChangeAt
set_option maxRecDepth 100000
set_option linter.unusedSimpArgs false
set_option linter.unusedVariables false

theorem Try.own : ownKnob Try.prog.godebug = none := by kernel_rfl
theorem Try.laidOut : laidOutB Try.prog = true := by kernel_rfl

theorem rd3 : Reads Try.prog 3 Int := reads_int Try.underlying3
theorem ar3 : ArgOK Try.prog 3 Int := arg_int Try.underlying3
theorem rd23 : Reads Try.prog 23 Box := reads_struct Try.underlying23 (.cons rfl (by kernel_rfl) rd3 (.cons rfl (by kernel_rfl) rd3 (.cons rfl (by kernel_rfl) rd3 (.one rfl (by kernel_rfl) rd3)))) (by kernel_rfl) (fun b => ⟨⟨b.1, b.2.1, b.2.2.1, b.2.2.2⟩, rfl⟩)
theorem ar23 : ArgOK Try.prog 23 Box := arg_struct Try.underlying23 rd23 rfl
theorem rd25 : Reads Try.prog 25 Point := reads_struct Try.underlying25 (.cons rfl (by kernel_rfl) rd3 (.one rfl (by kernel_rfl) rd3)) (by kernel_rfl) (fun b => ⟨⟨b.1, b.2⟩, rfl⟩)
theorem ar25 : ArgOK Try.prog 25 Point := arg_struct Try.underlying25 rd25 rfl

theorem OutlinesMatch_calls (H : Type) (enc : TypeId × Value → H) (W : World) (base : Nat) (args : Array Value) (ds : List (DataW H)) (ps : List MemPlace)
    (hval : ∀ (j : Nat) t v, Try.f3.params[j]? = some t → args[j]? = some v → Value.okWide Try.prog W .any base t v)
    (hA : DataW.TrodAll enc Try.prog W 0 (fun _ => true) true Try.f3.params.toList args.toList ds ps) : Gives Try.prog 3 args.toList NoM W (rep true) := by
  rw [Try.params3] at hA hval
  obtain ⟨v0, vs0, d0, ds0, p0, q0, ha0, rfl, rfl, h0, r0⟩ := trodAll_cons hA
  obtain ⟨v1, vs1, d1, ds1, p1, q1, rfl, rfl, rfl, h1, r1⟩ := trodAll_cons r0
  obtain ⟨v2, vs2, d2, ds2, p2, q2, rfl, rfl, rfl, h2, r2⟩ := trodAll_cons r1
  obtain ⟨v3, vs3, d3, ds3, p3, q3, rfl, rfl, rfl, h3, r3⟩ := trodAll_cons r2
  obtain ⟨v4, vs4, d4, ds4, p4, q4, rfl, rfl, rfl, h4, r4⟩ := trodAll_cons r3
  obtain ⟨v5, vs5, d5, ds5, p5, q5, rfl, rfl, rfl, h5, r5⟩ := trodAll_cons r4
  obtain ⟨rfl, rfl, rfl⟩ := trodAll_nil r5
  obtain ⟨x0, k0⟩ := ar3 H enc W base v0 d0 p0 (hval 0 3 v0 rfl (by rw [← Array.getElem?_toList, ha0]; rfl)) h0
  obtain ⟨x1, k1⟩ := ar23 H enc W base v1 d1 p1 (hval 1 23 v1 rfl (by rw [← Array.getElem?_toList, ha0]; rfl)) h1
  obtain ⟨x2, k2⟩ := ar23 H enc W base v2 d2 p2 (hval 2 23 v2 rfl (by rw [← Array.getElem?_toList, ha0]; rfl)) h2
  obtain ⟨x3, k3⟩ := ar25 H enc W base v3 d3 p3 (hval 3 25 v3 rfl (by rw [← Array.getElem?_toList, ha0]; rfl)) h3
  obtain ⟨x4, k4⟩ := ar3 H enc W base v4 d4 p4 (hval 4 3 v4 rfl (by rw [← Array.getElem?_toList, ha0]; rfl)) h4
  obtain ⟨x5, k5⟩ := ar3 H enc W base v5 d5 p5 (hval 5 3 v5 rfl (by rw [← Array.getElem?_toList, ha0]; rfl)) h5
  rw [ha0]
  exact (law_OutlinesMatch_ok (OutlinesMatch_true x0 x1 x2 x3 x4 x5)).calls NoM W _ (fun k h => h.elim) ⟨k0, k1, k2, k3, k4, k5, trivial⟩

theorem OutlinesMatch_lifted (os : Os) (started : os.Started) (H : Type) (enc : TypeId × Value → H) :
    ReturnsInHanded {} Try.checked os 3 .any (Rows.outlinesMatchSpec.pre6 enc Try.prog Try.f3 Rows.outlinesMatchRow.domain false) (Rows.outlinesMatchSpec.post enc Try.prog Try.f3 false true false false) := by
  refine returnsInHanded_of_change (C := Try.checked) Try.own started (by kernel_rfl) Try.func3 (ChangeSpec.witness6 (enc := enc) (C := Try.checked) false ⟨#[], #[.int .i64 0, .agg #[.int .i64 0, .int .i64 0, .int .i64 0, .int .i64 0], .agg #[.int .i64 0, .int .i64 0, .int .i64 0, .int .i64 0], .agg #[.int .i64 0, .int .i64 0], .int .i64 0, .int .i64 0], []⟩ 8 (by kernel_rfl) (by kernel_rfl) (by kernel_rfl) (by kernel_rfl)) ?_
  intro W base args ds gs before hval hW _ _
  have hr : Try.f3.params.toList.all (fun t => Try.prog.readableRec t && decide (t < Try.prog.types.size)) = true := by kernel_rfl
  refine law_post (P := Try.prog) (B := 4) (s := Rows.outlinesMatchSpec) rfl (by kernel_rfl) Try.underlying4 Try.laidOut (fun t ht => by have := List.all_eq_true.1 hr t ht; simpa using this) ?_ OutlinesMatch_calls H enc W base args ds gs before hval hW
  intro H ds hd
  rw [Try.params3] at hd
  match ds, hd with
  | [e0, e1, e2, e3, e4, e5], _ => rfl

theorem OutlinesMatch_holds : Rows.OutlinesMatchSaid :=
  OpenClaim.holds_of_wide 3 Try.f3 rfl rfl rfl rfl rfl rfl rfl ⟨rfl, rfl, rfl, rfl, rfl⟩ rfl rfl rfl rfl rfl (by kernel_rfl) Try.func3 (by kernel_rfl)
    (of_decide_eq_true (by kernel_rfl)) (by unfold Func.isWrapper; rw [if_neg (of_decide_eq_false (by kernel_rfl))]; exact ⟨rfl, rfl⟩)
    (fun os started H enc _ => OutlinesMatch_lifted os started H enc)

end Go.Proofs.Ythopjimlhjgoiaa
