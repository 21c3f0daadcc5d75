/-
  Boxes in a row lie where the reference says, and no other places with the gaps are nearer to where they want to be (for all wishes, sizes and gaps).
-/
import Derived.Test.YtbahnfkccdlpnaaNeaWa2
import Derived.Test.YtbahnfkccdlpnaaLaw
import Derived.Test.YtbahnfkccdlpnaaNeaPuNears
namespace Go.Proofs.Ytbahnfkccdlpnaa
open Go Go.DB Go.RowKit Go.ChangeShapes Go.WideShapes Go.ChangeAt
set_option maxRecDepth 100000
set_option linter.unusedSimpArgs false
set_option linter.unusedVariables false

theorem Try.own : ownKnob Try.prog.godebug = none := by kernel_rfl
theorem Try.laidOut : laidOutB Try.prog = true := by kernel_rfl

theorem rd3 : Reads Try.prog 3 Int := reads_int Try.underlying3
theorem ar3 : ArgOK Try.prog 3 Int := arg_int Try.underlying3
theorem rd32 : Reads Try.prog 32 (List Int) := reads_slice Try.underlying32 rd3 (by kernel_rfl)
theorem ar32 : ArgOK Try.prog 32 (List Int) := arg_slice Try.underlying32 rd32

theorem NearsMatch_calls (H : Type) (enc : TypeId × Value → H) (W : World) (base : Nat) (args : Array Value) (ds : List (DataW H)) (ps : List MemPlace) (hlow : Low NoM W)
    (hval : ∀ (j : Nat) t v, Try.f5.params[j]? = some t → args[j]? = some v → Value.okWide Try.prog W .any base t v)
    (hA : DataW.TrodAll enc Try.prog W 0 (fun _ => true) true Try.f5.params.toList args.toList ds ps) : Gives Try.prog 5 args.toList NoM W (rep true) := by
  rw [Try.params5] at hA hval
  obtain ⟨v0, vs0, d0, ds0, p0, q0, ha0, rfl, rfl, h0, r0⟩ := trodAll_cons hA
  obtain ⟨v1, vs1, d1, ds1, p1, q1, rfl, rfl, rfl, h1, r1⟩ := trodAll_cons r0
  obtain ⟨v2, vs2, d2, ds2, p2, q2, rfl, rfl, rfl, h2, r2⟩ := trodAll_cons r1
  obtain ⟨v3, vs3, d3, ds3, p3, q3, rfl, rfl, rfl, h3, r3⟩ := trodAll_cons r2
  obtain ⟨v4, vs4, d4, ds4, p4, q4, rfl, rfl, rfl, h4, r4⟩ := trodAll_cons r3
  obtain ⟨rfl, rfl, rfl⟩ := trodAll_nil r4
  obtain ⟨x0, k0⟩ := ar32 H enc W base v0 d0 p0 (hval 0 32 v0 rfl (by rw [← Array.getElem?_toList, ha0]; rfl)) h0
  obtain ⟨x1, k1⟩ := ar32 H enc W base v1 d1 p1 (hval 1 32 v1 rfl (by rw [← Array.getElem?_toList, ha0]; rfl)) h1
  obtain ⟨x2, k2⟩ := ar3 H enc W base v2 d2 p2 (hval 2 3 v2 rfl (by rw [← Array.getElem?_toList, ha0]; rfl)) h2
  obtain ⟨x3, k3⟩ := ar3 H enc W base v3 d3 p3 (hval 3 3 v3 rfl (by rw [← Array.getElem?_toList, ha0]; rfl)) h3
  obtain ⟨x4, k4⟩ := ar32 H enc W base v4 d4 p4 (hval 4 32 v4 rfl (by rw [← Array.getElem?_toList, ha0]; rfl)) h4
  rw [ha0]
  exact (law_NearsMatch_ok (NearsMatch_true x0 x1 x2 x3 x4 (rep_fits k0) (rep_fits k1) (rep_fits k3) (rep_fits k4))).calls NoM W _ hlow ⟨k0, k1, k2, k3, k4, trivial⟩

theorem NearsMatch_lifted (os : Os) (started : os.Started) (H : Type) (enc : TypeId × Value → H) :
    ReturnsInHanded {} Try.checked os 5 .any (Rows.nearsMatchSpec.pre6 enc Try.prog Try.f5 Rows.nearsMatchRow.domain false) (Rows.nearsMatchSpec.post enc Try.prog Try.f5 false true false false) := by
  refine returnsInHanded_of_change (C := Try.checked) Try.own started (by kernel_rfl) Try.func5 (ChangeSpec.witness6 (enc := enc) (C := Try.checked) false ⟨#[], #[.slice none 0 0, .slice none 0 0, .int .i64 0, .int .i64 0, .slice none 0 0], []⟩ 8 (by kernel_rfl) (by kernel_rfl) (by kernel_rfl) (by kernel_rfl)) ?_
  intro W base args ds gs before hval hW _ _
  have hr : Try.f5.params.toList.all (fun t => Try.prog.readableRec t && decide (t < Try.prog.types.size)) = true := by kernel_rfl
  refine law_post (P := Try.prog) (B := 4) (s := Rows.nearsMatchSpec) rfl (by kernel_rfl) Try.underlying4 Try.laidOut (fun t ht => by have := List.all_eq_true.1 hr t ht; simpa using this) ?_ NearsMatch_calls H enc W base args ds gs before (Low.start (fun k h => h)) hval hW
  intro H ds hd
  rw [Try.params5] at hd
  match ds, hd with
  | [e0, e1, e2, e3, e4], _ => rfl

theorem NearsMatch_holds : Rows.NearsMatchSaid :=
  OpenClaim.holds_of_wide 5 Try.f5 rfl rfl rfl rfl rfl rfl rfl ⟨rfl, rfl, rfl, rfl, rfl⟩ rfl rfl rfl rfl rfl (by kernel_rfl) Try.func5 (by kernel_rfl)
    (of_decide_eq_true (by kernel_rfl)) (by unfold Func.isWrapper; rw [if_neg (of_decide_eq_false (by kernel_rfl))]; exact ⟨rfl, rfl⟩)
    (fun os started H enc _ => NearsMatch_lifted os started H enc)

end Go.Proofs.Ytbahnfkccdlpnaa
