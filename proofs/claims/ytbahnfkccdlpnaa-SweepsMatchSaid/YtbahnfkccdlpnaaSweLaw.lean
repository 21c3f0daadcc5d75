/-
  layer.Sweep agrees with the reference on all rows, links and rounds: rows that are sorted by means.
-/
import Derived.Test.YtbahnfkccdlpnaaSweWa3
import Derived.Test.YtbahnfkccdlpnaaLaw
import Derived.Test.YtbahnfkccdlpnaaSwePuSweeps
namespace Go.Proofs.Ytbahnfkccdlpnaa
open Go Go.DB Go.RowKit Go.ChangeShapes Go.WideShapes Go.ChangeAt
set_option maxRecDepth 100000
set_option linter.unusedSimpArgs false
set_option linter.unusedVariables false

theorem Try.own : ownKnob Try.prog.godebug = none := by kernel_rfl
theorem Try.laidOut : laidOutB Try.prog = true := by kernel_rfl

theorem rd3 : Reads Try.prog 3 Int := reads_int Try.underlying3
theorem ar3 : ArgOK Try.prog 3 Int := arg_int Try.underlying3
theorem rd32 : Reads Try.prog 32 (List Int) := reads_slice Try.underlying32 rd3 (by kernel_rfl)
theorem ar32 : ArgOK Try.prog 32 (List Int) := arg_slice Try.underlying32 rd32
theorem rd22 : Reads Try.prog 22 (List (List Int)) := reads_slice Try.underlying22 rd32 (by kernel_rfl)
theorem ar22 : ArgOK Try.prog 22 (List (List Int)) := arg_slice Try.underlying22 rd22
theorem rd79 : Reads Try.prog 79 Link := reads_struct Try.underlying79 (.cons rfl (by kernel_rfl) rd3 (.one rfl (by kernel_rfl) rd3)) (by kernel_rfl) (fun b => ⟨⟨b.1, b.2⟩, rfl⟩)
theorem ar79 : ArgOK Try.prog 79 Link := arg_struct Try.underlying79 rd79 rfl
theorem rd23 : Reads Try.prog 23 (List Link) := reads_slice Try.underlying23 rd79 (by kernel_rfl)
theorem ar23 : ArgOK Try.prog 23 (List Link) := arg_slice Try.underlying23 rd23

theorem SweepsMatch_calls (H : Type) (enc : TypeId × Value → H) (W : World) (base : Nat) (args : Array Value) (ds : List (DataW H)) (ps : List MemPlace) (hlow : Low NoM W)
    (hval : ∀ (j : Nat) t v, Try.f3.params[j]? = some t → args[j]? = some v → Value.okWide Try.prog W .any base t v)
    (hA : DataW.TrodAll enc Try.prog W 0 (fun _ => true) true Try.f3.params.toList args.toList ds ps) : Gives Try.prog 3 args.toList NoM W (rep true) := by
  rw [Try.params3] at hA hval
  obtain ⟨v0, vs0, d0, ds0, p0, q0, ha0, rfl, rfl, h0, r0⟩ := trodAll_cons hA
  obtain ⟨v1, vs1, d1, ds1, p1, q1, rfl, rfl, rfl, h1, r1⟩ := trodAll_cons r0
  obtain ⟨v2, vs2, d2, ds2, p2, q2, rfl, rfl, rfl, h2, r2⟩ := trodAll_cons r1
  obtain ⟨rfl, rfl, rfl⟩ := trodAll_nil r2
  obtain ⟨x0, k0⟩ := ar22 H enc W base v0 d0 p0 (hval 0 22 v0 rfl (by rw [← Array.getElem?_toList, ha0]; rfl)) h0
  obtain ⟨x1, k1⟩ := ar23 H enc W base v1 d1 p1 (hval 1 23 v1 rfl (by rw [← Array.getElem?_toList, ha0]; rfl)) h1
  obtain ⟨x2, k2⟩ := ar3 H enc W base v2 d2 p2 (hval 2 3 v2 rfl (by rw [← Array.getElem?_toList, ha0]; rfl)) h2
  rw [ha0]
  exact (law_SweepsMatch_ok (SweepsMatch_true x0 x1 x2 (rep_fits k1))).calls NoM W _ hlow ⟨k0, k1, k2, trivial⟩

theorem SweepsMatch_lifted (os : Os) (started : os.Started) (H : Type) (enc : TypeId × Value → H) :
    ReturnsInHanded {} Try.checked os 3 .any (Rows.sweepsMatchSpec.pre6 enc Try.prog Try.f3 Rows.sweepsMatchRow.domain false) (Rows.sweepsMatchSpec.post enc Try.prog Try.f3 false true false false) := by
  refine returnsInHanded_of_change (C := Try.checked) Try.own started (by kernel_rfl) Try.func3 (ChangeSpec.witness6 (enc := enc) (C := Try.checked) false ⟨#[], #[.slice none 0 0, .slice none 0 0, .int .i64 0], []⟩ 8 (by kernel_rfl) (by kernel_rfl) (by kernel_rfl) (by kernel_rfl)) ?_
  intro W base args ds gs before hval hW _ _
  have hr : Try.f3.params.toList.all (fun t => Try.prog.readableRec t && decide (t < Try.prog.types.size)) = true := by kernel_rfl
  refine law_post (P := Try.prog) (B := 4) (s := Rows.sweepsMatchSpec) rfl (by kernel_rfl) Try.underlying4 Try.laidOut (fun t ht => by have := List.all_eq_true.1 hr t ht; simpa using this) ?_ SweepsMatch_calls H enc W base args ds gs before (Low.start (fun k h => h)) hval hW
  intro H ds hd
  rw [Try.params3] at hd
  match ds, hd with
  | [e0, e1, e2], _ => rfl

theorem SweepsMatch_holds : Rows.SweepsMatchSaid :=
  OpenClaim.holds_of_wide 3 Try.f3 rfl rfl rfl rfl rfl rfl rfl ⟨rfl, rfl, rfl, rfl, rfl⟩ rfl rfl rfl rfl rfl (by kernel_rfl) Try.func3 (by kernel_rfl)
    (of_decide_eq_true (by kernel_rfl)) (by unfold Func.isWrapper; rw [if_neg (of_decide_eq_false (by kernel_rfl))]; exact ⟨rfl, rfl⟩)
    (fun os started H enc _ => SweepsMatch_lifted os started H enc)

end Go.Proofs.Ytbahnfkccdlpnaa
