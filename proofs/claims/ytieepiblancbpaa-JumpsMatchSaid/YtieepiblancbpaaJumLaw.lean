/-
  Jumps of paths are where the reference says (for all lists of paths).
-/
import Derived.Test.YtieepiblancbpaaJumWa1
import Derived.Test.YtieepiblancbpaaLaw
import Derived.Test.YtieepiblancbpaaJumPuJumps3
namespace Go.Proofs.Ytieepiblancbpaa
open Go Go.DB Go.RowKit Go.ChangeShapes Go.WideShapes Go.ChangeAt
set_option maxRecDepth 100000
set_option linter.unusedSimpArgs false
set_option linter.unusedVariables false

theorem Try.own : ownKnob Try.prog.godebug = none := by kernel_rfl
theorem Try.laidOut : laidOutB Try.prog = true := by kernel_rfl

theorem rd3 : Reads Try.prog 3 Int := reads_int Try.underlying3
theorem ar3 : ArgOK Try.prog 3 Int := arg_int Try.underlying3
theorem rd23 : Reads Try.prog 23 Point := reads_struct Try.underlying23 (.cons rfl (by kernel_rfl) rd3 (.one rfl (by kernel_rfl) rd3)) (by kernel_rfl) (fun b => ⟨⟨b.1, b.2⟩, rfl⟩)
theorem ar23 : ArgOK Try.prog 23 Point := arg_struct Try.underlying23 rd23 rfl
theorem rd66 : Reads Try.prog 66 (List Point) := reads_slice Try.underlying66 rd23 (by kernel_rfl)
theorem ar66 : ArgOK Try.prog 66 (List Point) := arg_slice Try.underlying66 rd66
theorem rd85 : Reads Try.prog 85 (List (List Point)) := reads_slice Try.underlying85 rd66 (by kernel_rfl)
theorem ar85 : ArgOK Try.prog 85 (List (List Point)) := arg_slice Try.underlying85 rd85

theorem JumpsMatch_calls (H : Type) (enc : TypeId × Value → H) (W : World) (base : Nat) (args : Array Value) (ds : List (DataW H)) (ps : List MemPlace) (hlow : Low NoM W)
    (hval : ∀ (j : Nat) t v, Try.f8.params[j]? = some t → args[j]? = some v → Value.okWide Try.prog W .any base t v)
    (hA : DataW.TrodAll enc Try.prog W 0 (fun _ => true) true Try.f8.params.toList args.toList ds ps) : Gives Try.prog 8 args.toList NoM W (rep true) := by
  rw [Try.params8] at hA hval
  obtain ⟨v0, vs0, d0, ds0, p0, q0, ha0, rfl, rfl, h0, r0⟩ := trodAll_cons hA
  obtain ⟨rfl, rfl, rfl⟩ := trodAll_nil r0
  obtain ⟨x0, k0⟩ := ar85 H enc W base v0 d0 p0 (hval 0 85 v0 rfl (by rw [← Array.getElem?_toList, ha0]; rfl)) h0
  rw [ha0]
  exact (law_JumpsMatch_ok (JumpsMatch_true x0 (rep_fits k0))).calls NoM W _ hlow ⟨k0, trivial⟩

theorem JumpsMatch_lifted (os : Os) (started : os.Started) (H : Type) (enc : TypeId × Value → H) :
    ReturnsInHanded {} Try.checked os 8 .any (Rows.jumpsMatchSpec.pre6 enc Try.prog Try.f8 Rows.jumpsMatchRow.domain false) (Rows.jumpsMatchSpec.post enc Try.prog Try.f8 false true false false) := by
  refine returnsInHanded_of_change (C := Try.checked) Try.own started (by kernel_rfl) Try.func8 (ChangeSpec.witness6 (enc := enc) (C := Try.checked) false ⟨#[], #[.slice none 0 0], []⟩ 8 (by kernel_rfl) (by kernel_rfl) (by kernel_rfl) (by kernel_rfl)) ?_
  intro W base args ds gs before hval hW _ _
  have hr : Try.f8.params.toList.all (fun t => Try.prog.readableRec t && decide (t < Try.prog.types.size)) = true := by kernel_rfl
  refine law_post (P := Try.prog) (B := 4) (s := Rows.jumpsMatchSpec) rfl (by kernel_rfl) Try.underlying4 Try.laidOut (fun t ht => by have := List.all_eq_true.1 hr t ht; simpa using this) ?_ JumpsMatch_calls H enc W base args ds gs before (Low.start (fun k h => h)) hval hW
  intro H ds hd
  rw [Try.params8] at hd
  match ds, hd with
  | [e0], _ => rfl

theorem JumpsMatch_holds : Rows.JumpsMatchSaid :=
  OpenClaim.holds_of_wide 8 Try.f8 rfl rfl rfl rfl rfl rfl rfl ⟨rfl, rfl, rfl, rfl, rfl⟩ rfl rfl rfl rfl rfl (by kernel_rfl) Try.func8 (by kernel_rfl)
    (of_decide_eq_true (by kernel_rfl)) (by unfold Func.isWrapper; rw [if_neg (of_decide_eq_false (by kernel_rfl))]; exact ⟨rfl, rfl⟩)
    (fun os started H enc _ => JumpsMatch_lifted os started H enc)

end Go.Proofs.Ytieepiblancbpaa
