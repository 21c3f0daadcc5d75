import Derived.Test.YtieepiblancbpaaRows
import Derived.Test.YtieepiblancbpaaGeoPure
namespace Go.Proofs.Ytieepiblancbpaa
open Go Go.DB Go.RowKit
set_option maxRecDepth 100000
set_option linter.unusedSimpArgs false
set_option linter.unusedVariables false

theorem mixed : Try.prog.follows .mixedOrders = true := by kernel_rfl
theorem fnok3 : FnOK Try.prog 3 := ⟨_, Try.func3, by kernel_rfl, by kernel_rfl⟩
theorem fnok9 : FnOK Try.prog 9 := ⟨_, Try.func9, by kernel_rfl, by kernel_rfl⟩
theorem fnok10 : FnOK Try.prog 10 := ⟨_, Try.func10, by kernel_rfl, by kernel_rfl⟩
theorem fnok11 : FnOK Try.prog 11 := ⟨_, Try.func11, by kernel_rfl, by kernel_rfl⟩
theorem fnok12 : FnOK Try.prog 12 := ⟨_, Try.func12, by kernel_rfl, by kernel_rfl⟩
theorem fnok13 : FnOK Try.prog 13 := ⟨_, Try.func13, by kernel_rfl, by kernel_rfl⟩
theorem fnok14 : FnOK Try.prog 14 := ⟨_, Try.func14, by kernel_rfl, by kernel_rfl⟩
theorem fnok15 : FnOK Try.prog 15 := ⟨_, Try.func15, by kernel_rfl, by kernel_rfl⟩
theorem fnok16 : FnOK Try.prog 16 := ⟨_, Try.func16, by kernel_rfl, by kernel_rfl⟩
theorem fnok17 : FnOK Try.prog 17 := ⟨_, Try.func17, by kernel_rfl, by kernel_rfl⟩
theorem fnok18 : FnOK Try.prog 18 := ⟨_, Try.func18, by kernel_rfl, by kernel_rfl⟩
theorem fnok19 : FnOK Try.prog 19 := ⟨_, Try.func19, by kernel_rfl, by kernel_rfl⟩
theorem fnok20 : FnOK Try.prog 20 := ⟨_, Try.func20, by kernel_rfl, by kernel_rfl⟩
theorem fnok21 : FnOK Try.prog 21 := ⟨_, Try.func21, by kernel_rfl, by kernel_rfl⟩
theorem fnok22 : FnOK Try.prog 22 := ⟨_, Try.func22, by kernel_rfl, by kernel_rfl⟩
theorem fnok24 : FnOK Try.prog 24 := ⟨_, Try.func24, by kernel_rfl, by kernel_rfl⟩
theorem fnok25 : FnOK Try.prog 25 := ⟨_, Try.func25, by kernel_rfl, by kernel_rfl⟩
theorem fnok26 : FnOK Try.prog 26 := ⟨_, Try.func26, by kernel_rfl, by kernel_rfl⟩
theorem fnok27 : FnOK Try.prog 27 := ⟨_, Try.func27, by kernel_rfl, by kernel_rfl⟩
theorem fnok34 : FnOK Try.prog 34 := ⟨_, Try.func34, by kernel_rfl, by kernel_rfl⟩
theorem fnok79 : FnOK Try.prog 79 := ⟨_, Try.func79, by kernel_rfl, by kernel_rfl⟩
theorem fnok80 : FnOK Try.prog 80 := ⟨_, Try.func80, by kernel_rfl, by kernel_rfl⟩
theorem fnok81 : FnOK Try.prog 81 := ⟨_, Try.func81, by kernel_rfl, by kernel_rfl⟩
theorem fnok82 : FnOK Try.prog 82 := ⟨_, Try.func82, by kernel_rfl, by kernel_rfl⟩
theorem fnok83 : FnOK Try.prog 83 := ⟨_, Try.func83, by kernel_rfl, by kernel_rfl⟩
theorem fnok84 : FnOK Try.prog 84 := ⟨_, Try.func84, by kernel_rfl, by kernel_rfl⟩
theorem fnok85 : FnOK Try.prog 85 := ⟨_, Try.func85, by kernel_rfl, by kernel_rfl⟩
theorem fnok86 : FnOK Try.prog 86 := ⟨_, Try.func86, by kernel_rfl, by kernel_rfl⟩
theorem fnok87 : FnOK Try.prog 87 := ⟨_, Try.func87, by kernel_rfl, by kernel_rfl⟩
theorem fnok89 : FnOK Try.prog 89 := ⟨_, Try.func89, by kernel_rfl, by kernel_rfl⟩
theorem fnok112 : FnOK Try.prog 112 := ⟨_, Try.func112, by kernel_rfl, by kernel_rfl⟩
theorem sl66 : SliceOf Try.prog 66 23 := Try.underlying66
theorem sl94 : SliceOf Try.prog 94 24 := Try.underlying94
theorem ty3 : Ty Try.prog 3 Int := ⟨⟨_, Try.underlying3, rfl⟩, by kernel_rfl⟩
theorem ty23 : Ty Try.prog 23 Pt := ⟨⟨_, Try.underlying23, rfl⟩, by kernel_rfl⟩
theorem ty24 : Ty Try.prog 24 Int := ⟨⟨_, Try.underlying24, rfl⟩, by kernel_rfl⟩
theorem fd23_0 : FieldAt Try.prog 23 0 0 := ⟨_, _, Try.underlying23, rfl, rfl, by kernel_rfl⟩
theorem hfd23_0 : HasField Pt Int 0 Pt.x := ⟨by decide, fun M x cs w h => (HasField.fst HasField.self).2 M _ cs w h⟩
theorem fd23_1 : FieldAt Try.prog 23 1 1 := ⟨_, _, Try.underlying23, rfl, rfl, by kernel_rfl⟩
theorem hfd23_1 : HasField Pt Int 1 Pt.y := ⟨by decide, fun M x cs w h => (HasField.snd HasField.self).2 M _ cs w h⟩
theorem hz23 : HasZero Try.prog 23 := by unfold HasZero; kernel_rfl
theorem hz24 : HasZero Try.prog 24 := by unfold HasZero; kernel_rfl
theorem zo23 : ZeroOf Try.prog 23 (⟨0, 0⟩ : Pt) := ⟨[.int .i64 0, .int .i64 0], by kernel_rfl, fun _ _ => rep_pt_cells (by decide) (by decide)⟩
theorem bu23 : BuildAt Try.prog 23 [.int .i64 0, .int .i64 0] [(0, 1), (1, 1)] := ⟨by kernel_rfl, _, Try.underlying23, by kernel_rfl⟩
theorem eq23 : EqAt Try.prog 23 Pt := eqAt_pt ⟨by kernel_rfl, by kernel_rfl, by kernel_rfl, by kernel_rfl⟩
/-- geom.sign -/
theorem sign_spec (n : Int) : FSpec Try.prog 83 [rep n] (rep (sgn n)) := by
  refine FSpec.intro (n := 9) fnok83 Try.func83 rfl Try.ntmps83 rfl (fun w0 Mf => ?_)
  refine Cod.seq ?_
  refine Cod.region [] mixed (by kernel_rfl) ?_
  refine Chain.cons (StepOK.assign .none (.int (by decide))) rfl ?_
  refine Chain.nil ?_
  refine Ends.then ?_
  refine Cod.weaken (.cons (t := 0) rfl Sub.nil) SubB.nil ?_
  refine Cod.seq ?_
  refine Cod.block ?_
  refine Cod.seq ?_
  refine Cod.region [] mixed (by kernel_rfl) ?_
  refine Chain.cons (StepOK.move .none (.tmp rfl (fun _ => trivial))) rfl ?_
  refine Chain.cons (StepOK.gt .none (.tmp rfl (fun _ => trivial)) (.int (by decide))) rfl ?_
  refine Chain.cons (StepOK.assign .none (.tmp rfl (fun _ => trivial))) rfl ?_
  refine Chain.nil ?_
  refine Ends.then ?_
  refine Cod.weaken (.cons (t := 0) rfl (.cons (t := 3) rfl Sub.nil)) SubB.nil ?_
  refine Cod.cond (t := 3) rfl trivial (fun hb1 => ?_) (fun hb1 => ?_)
  · try simp only [decide_eq_true_eq, decide_eq_false_iff_not, Bool.and_eq_true, Bool.or_eq_true, Bool.not_eq_true', Bool.not_eq_false', Bool.and_eq_false_iff, Bool.or_eq_false_iff, Int.not_lt, Int.not_le, Bool.true_eq_false, Bool.false_eq_true, true_and, and_true] at hb1
    refine Cod.seq ?_
    refine Cod.region [] mixed (by kernel_rfl) ?_
    refine Chain.cons (StepOK.assign .none (.int (by decide))) rfl ?_
    refine Chain.nil ?_
    refine Ends.then ?_
    refine Cod.weaken (.cons (t := 2) rfl Sub.nil) SubB.nil ?_
    refine Cod.ret ?_
    refine Ends.blkRet ?_
    refine Ends.thenRet ?_
    refine Ends.ret1 (.inl rfl) Try.results83 (ResOK.tmp rfl trivial ?_)
    refine Imp.eq ?_; unfold sgn; (repeat' split) <;> omega
  · try simp only [decide_eq_true_eq, decide_eq_false_iff_not, Bool.and_eq_true, Bool.or_eq_true, Bool.not_eq_true', Bool.not_eq_false', Bool.and_eq_false_iff, Bool.or_eq_false_iff, Int.not_lt, Int.not_le, Bool.true_eq_false, Bool.false_eq_true, true_and, and_true] at hb1
    refine Cod.seq ?_
    refine Cod.region [] mixed (by kernel_rfl) ?_
    refine Chain.cons (StepOK.move .none (.tmp rfl (fun _ => trivial))) rfl ?_
    refine Chain.cons (StepOK.lt .none (.tmp rfl (fun _ => trivial)) (.int (by decide))) rfl ?_
    refine Chain.cons (StepOK.assign .none (.tmp rfl (fun _ => trivial))) rfl ?_
    refine Chain.nil ?_
    refine Ends.then ?_
    refine Cod.weaken (.cons (t := 6) rfl Sub.nil) SubB.nil ?_
    refine Cod.cond (t := 6) rfl trivial (fun hb2 => ?_) (fun hb2 => ?_)
    · try simp only [decide_eq_true_eq, decide_eq_false_iff_not, Bool.and_eq_true, Bool.or_eq_true, Bool.not_eq_true', Bool.not_eq_false', Bool.and_eq_false_iff, Bool.or_eq_false_iff, Int.not_lt, Int.not_le, Bool.true_eq_false, Bool.false_eq_true, true_and, and_true] at hb2
      refine Cod.seq ?_
      refine Cod.region [] mixed (by kernel_rfl) ?_
      refine Chain.cons (StepOK.assign .none (.int (by decide))) rfl ?_
      refine Chain.nil ?_
      refine Ends.then ?_
      refine Cod.weaken (.cons (t := 2) rfl Sub.nil) SubB.nil ?_
      refine Cod.ret ?_
      refine Ends.blkRet ?_
      refine Ends.thenRet ?_
      refine Ends.ret1 (.inl rfl) Try.results83 (ResOK.tmp rfl trivial ?_)
      refine Imp.eq ?_; unfold sgn; (repeat' split) <;> omega
    · try simp only [decide_eq_true_eq, decide_eq_false_iff_not, Bool.and_eq_true, Bool.or_eq_true, Bool.not_eq_true', Bool.not_eq_false', Bool.and_eq_false_iff, Bool.or_eq_false_iff, Int.not_lt, Int.not_le, Bool.true_eq_false, Bool.false_eq_true, true_and, and_true] at hb2
      refine Cod.skip ?_
      refine Ends.blkNormal ?_
      refine Ends.then ?_
      refine Cod.weaken Sub.nil SubB.nil ?_
      refine Cod.seq ?_
      refine Cod.region [] mixed (by kernel_rfl) ?_
      refine Chain.cons (StepOK.assign .none (.int (by decide))) rfl ?_
      refine Chain.nil ?_
      refine Ends.then ?_
      refine Cod.weaken (.cons (t := 2) rfl Sub.nil) SubB.nil ?_
      refine Cod.ret ?_
      refine Ends.ret1 (.inl rfl) Try.results83 (ResOK.tmp rfl trivial ?_)
      refine Imp.eq ?_; unfold sgn; (repeat' split) <;> omega

/-- drawref1.Sign -/
theorem Sign_spec (n : Int) : FSpec Try.prog 84 [rep n] (rep (sgn n)) := by
  refine FSpec.intro (n := 6) fnok84 Try.func84 rfl Try.ntmps84 rfl (fun w0 Mf => ?_)
  refine Cod.seq ?_
  refine Cod.region [] mixed (by kernel_rfl) ?_
  refine Chain.cons (StepOK.assign .none (.int (by decide))) rfl ?_
  refine Chain.nil ?_
  refine Ends.then ?_
  refine Cod.weaken (.cons (t := 0) rfl Sub.nil) SubB.nil ?_
  refine Cod.seq ?_
  refine Cod.region [] mixed (by kernel_rfl) ?_
  refine Chain.cons (StepOK.move .none (.tmp rfl (fun _ => trivial))) rfl ?_
  refine Chain.cons (StepOK.max2 .none (.tmp rfl (fun _ => trivial)) (.int (by decide))) rfl ?_
  refine Chain.cons (StepOK.min2 .none (.tmp rfl (fun _ => trivial)) (.int (by decide))) rfl ?_
  refine Chain.cons (StepOK.assign .none (.tmp rfl (fun _ => trivial))) rfl ?_
  refine Chain.nil ?_
  refine Ends.then ?_
  refine Cod.weaken (.cons (t := 2) rfl Sub.nil) SubB.nil ?_
  refine Cod.ret ?_
  refine Ends.ret1 (.inl rfl) Try.results84 (ResOK.tmp rfl trivial ?_)
  refine Imp.eq ?_; unfold sgn; (repeat' split) <;> omega

/-- geom.out -/
theorem out_spec (n : Int) : FSpec Try.prog 89 [rep n] (rep (outB n)) := by
  refine FSpec.intro (n := 9) fnok89 Try.func89 rfl Try.ntmps89 rfl (fun w0 Mf => ?_)
  refine Cod.seq ?_
  refine Cod.region [] mixed (by kernel_rfl) ?_
  refine Chain.cons (StepOK.assign .none .bool) rfl ?_
  refine Chain.nil ?_
  refine Ends.then ?_
  refine Cod.weaken (.cons (t := 0) rfl Sub.nil) SubB.nil ?_
  refine Cod.seq ?_
  refine Cod.region [] mixed (by kernel_rfl) ?_
  refine Chain.cons (StepOK.move .none (.tmp rfl (fun _ => trivial))) rfl ?_
  refine Chain.cons (StepOK.lt .none (.tmp rfl (fun _ => trivial)) (.int (by decide))) rfl ?_
  refine Chain.cons (StepOK.move .none (.tmp rfl (fun _ => trivial))) rfl ?_
  refine Chain.cons (StepOK.move (.at rfl rfl) (.tmp rfl (fun _ => trivial))) rfl ?_
  refine Chain.cons (StepOK.gt (.at rfl rfl) (.tmp rfl id) (.int (by decide))) rfl ?_
  refine Chain.cons (StepOK.pickOr .none (.tmp rfl (fun _ => trivial)) (.tmp rfl id)) rfl ?_
  refine Chain.cons (StepOK.assign .none (.tmp rfl (fun _ => trivial))) rfl ?_
  refine Chain.nil ?_
  refine Ends.then ?_
  refine Cod.weaken (.cons (t := 2) rfl Sub.nil) SubB.nil ?_
  refine Cod.ret ?_
  refine Ends.ret1 (.inl rfl) Try.results89 (ResOK.tmp rfl trivial ?_)
  exact Imp.refl

/-- geom.CheckPoint -/
theorem CheckPoint_spec (p : Pt) : FSpec Try.prog 34 [rep p] (rep (ptErr p)) := by
  refine FSpec.intro (n := 11) fnok34 Try.func34 rfl Try.ntmps34 rfl (fun w0 Mf => ?_)
  refine Cod.seq ?_
  refine Cod.region [] mixed (by kernel_rfl) ?_
  refine Chain.cons (StepOK.box .none (.tmp rfl (fun _ => trivial))) rfl ?_
  refine Chain.cons (StepOK.assign .none (.int (by decide))) rfl ?_
  refine Chain.nil ?_
  refine Ends.then ?_
  refine Cod.weaken (.cons (t := 1) rfl Sub.nil) SubB.nil ?_
  refine Cod.seq ?_
  refine Cod.seq ?_
  refine Cod.region [] mixed (by kernel_rfl) ?_
  refine Chain.cons (StepOK.fieldAddr .none fd23_0 hfd23_0 (.tmp rfl (fun _ => trivial))) rfl ?_
  refine Chain.cons (StepOK.load .none ty3 (.tmp rfl (fun _ => trivial))) rfl ?_
  refine Chain.cons (StepOK.call .none (out_spec _) (.cons (.tmp rfl (fun _ => trivial)) .nil)) rfl ?_
  refine Chain.cons (StepOK.move .none (.tmp rfl (fun _ => trivial))) rfl ?_
  refine Chain.cons (StepOK.fieldAddr (.at rfl rfl) fd23_1 hfd23_1 (.tmp rfl (fun _ => trivial))) rfl ?_
  refine Chain.cons (StepOK.load (.at rfl rfl) ty3 (.tmp rfl id)) rfl ?_
  refine Chain.cons (StepOK.call (.at rfl rfl) (out_spec _) (.cons (.tmp rfl id) .nil)) rfl ?_
  refine Chain.cons (StepOK.pickOr .none (.tmp rfl (fun _ => trivial)) (.tmp rfl id)) rfl ?_
  refine Chain.nil ?_
  refine Ends.then ?_
  refine Cod.weaken (.cons (t := 10) rfl Sub.nil) SubB.nil ?_
  refine Cod.cond (t := 10) rfl trivial (fun hb1 => ?_) (fun hb1 => ?_)
  · try simp only [decide_eq_true_eq, decide_eq_false_iff_not, Bool.and_eq_true, Bool.or_eq_true, Bool.not_eq_true', Bool.not_eq_false', Bool.and_eq_false_iff, Bool.or_eq_false_iff, Int.not_lt, Int.not_le, Bool.true_eq_false, Bool.false_eq_true, true_and, and_true] at hb1
    refine Cod.seq ?_
    refine Cod.region [] mixed (by kernel_rfl) ?_
    refine Chain.cons (StepOK.assign .none (.int (by decide))) rfl ?_
    refine Chain.nil ?_
    refine Ends.then ?_
    refine Cod.weaken (.cons (t := 2) rfl Sub.nil) SubB.nil ?_
    refine Cod.ret ?_
    refine Ends.thenRet ?_
    refine Ends.ret1 (.inl rfl) Try.results34 (ResOK.tmp rfl trivial ?_)
    refine Imp.eq ?_; simp_all [ptErr]
  · try simp only [decide_eq_true_eq, decide_eq_false_iff_not, Bool.and_eq_true, Bool.or_eq_true, Bool.not_eq_true', Bool.not_eq_false', Bool.and_eq_false_iff, Bool.or_eq_false_iff, Int.not_lt, Int.not_le, Bool.true_eq_false, Bool.false_eq_true, true_and, and_true] at hb1
    refine Cod.skip ?_
    refine Ends.then ?_
    refine Cod.weaken Sub.nil SubB.nil ?_
    refine Cod.seq ?_
    refine Cod.region [] mixed (by kernel_rfl) ?_
    refine Chain.cons (StepOK.assign .none (.int (by decide))) rfl ?_
    refine Chain.nil ?_
    refine Ends.then ?_
    refine Cod.weaken (.cons (t := 2) rfl Sub.nil) SubB.nil ?_
    refine Cod.ret ?_
    refine Ends.ret1 (.inl rfl) Try.results34 (ResOK.tmp rfl trivial ?_)
    refine Imp.eq ?_; simp_all [ptErr]

/-- drawref1.In -/
theorem In_spec (n lo hi : Int) : FSpec Try.prog 26 [rep n, rep lo, rep hi] (rep (inB n lo hi)) := by
  refine FSpec.intro (n := 15) fnok26 Try.func26 rfl Try.ntmps26 rfl (fun w0 Mf => ?_)
  refine Cod.seq ?_
  refine Cod.region [] mixed (by kernel_rfl) ?_
  refine Chain.cons (StepOK.assign .none .bool) rfl ?_
  refine Chain.nil ?_
  refine Ends.then ?_
  refine Cod.weaken (.cons (t := 0) rfl (.cons (t := 1) rfl (.cons (t := 2) rfl Sub.nil))) SubB.nil ?_
  refine Cod.seq ?_
  refine Cod.region [] mixed (by kernel_rfl) ?_
  refine Chain.cons (StepOK.move .none (.tmp rfl (fun _ => trivial))) rfl ?_
  refine Chain.cons (StepOK.move .none (.tmp rfl (fun _ => trivial))) rfl ?_
  refine Chain.cons (StepOK.ge .none (.tmp rfl (fun _ => trivial)) (.tmp rfl (fun _ => trivial))) rfl ?_
  refine Chain.cons (StepOK.move .none (.tmp rfl (fun _ => trivial))) rfl ?_
  refine Chain.cons (StepOK.move (.at rfl rfl) (.tmp rfl (fun _ => trivial))) rfl ?_
  refine Chain.cons (StepOK.move (.at rfl rfl) (.tmp rfl (fun _ => trivial))) rfl ?_
  refine Chain.cons (StepOK.le (.at rfl rfl) (.tmp rfl id) (.tmp rfl id)) rfl ?_
  refine Chain.cons (StepOK.pickAnd .none (.tmp rfl (fun _ => trivial)) (.tmp rfl id)) rfl ?_
  refine Chain.cons (StepOK.assign .none (.tmp rfl (fun _ => trivial))) rfl ?_
  refine Chain.nil ?_
  refine Ends.then ?_
  refine Cod.weaken (.cons (t := 6) rfl Sub.nil) SubB.nil ?_
  refine Cod.ret ?_
  refine Ends.ret1 (.inl rfl) Try.results26 (ResOK.tmp rfl trivial ?_)
  exact Imp.refl

/-- drawref1.When -/
theorem When_spec (b : Bool) (e : Int) : FSpec Try.prog 25 [rep b, rep e] (rep (whenE b e)) := by
  refine FSpec.intro (n := 7) fnok25 Try.func25 rfl Try.ntmps25 rfl (fun w0 Mf => ?_)
  refine Cod.seq ?_
  refine Cod.region [] mixed (by kernel_rfl) ?_
  refine Chain.cons (StepOK.assign .none (.int (by decide))) rfl ?_
  refine Chain.nil ?_
  refine Ends.then ?_
  refine Cod.weaken (.cons (t := 0) rfl (.cons (t := 1) rfl Sub.nil)) SubB.nil ?_
  refine Cod.seq ?_
  refine Cod.seq ?_
  refine Cod.region [] mixed (by kernel_rfl) ?_
  refine Chain.cons (StepOK.move .none (.tmp rfl (fun _ => trivial))) rfl ?_
  refine Chain.nil ?_
  refine Ends.then ?_
  refine Cod.weaken (.cons (t := 1) rfl (.cons (t := 5) rfl Sub.nil)) SubB.nil ?_
  refine Cod.cond (t := 5) rfl trivial (fun hb1 => ?_) (fun hb1 => ?_)
  · try simp only [decide_eq_true_eq, decide_eq_false_iff_not, Bool.and_eq_true, Bool.or_eq_true, Bool.not_eq_true', Bool.not_eq_false', Bool.and_eq_false_iff, Bool.or_eq_false_iff, Int.not_lt, Int.not_le, Bool.true_eq_false, Bool.false_eq_true, true_and, and_true] at hb1
    refine Cod.seq ?_
    refine Cod.region [] mixed (by kernel_rfl) ?_
    refine Chain.cons (StepOK.move .none (.tmp rfl (fun _ => trivial))) rfl ?_
    refine Chain.cons (StepOK.assign .none (.tmp rfl (fun _ => trivial))) rfl ?_
    refine Chain.nil ?_
    refine Ends.then ?_
    refine Cod.weaken (.cons (t := 4) rfl Sub.nil) SubB.nil ?_
    refine Cod.ret ?_
    refine Ends.thenRet ?_
    refine Ends.ret1 (.inl rfl) Try.results25 (ResOK.tmp rfl trivial ?_)
    refine Imp.eq ?_; simp_all [whenE]
  · try simp only [decide_eq_true_eq, decide_eq_false_iff_not, Bool.and_eq_true, Bool.or_eq_true, Bool.not_eq_true', Bool.not_eq_false', Bool.and_eq_false_iff, Bool.or_eq_false_iff, Int.not_lt, Int.not_le, Bool.true_eq_false, Bool.false_eq_true, true_and, and_true] at hb1
    refine Cod.skip ?_
    refine Ends.then ?_
    refine Cod.weaken Sub.nil SubB.nil ?_
    refine Cod.seq ?_
    refine Cod.region [] mixed (by kernel_rfl) ?_
    refine Chain.cons (StepOK.assign .none (.int (by decide))) rfl ?_
    refine Chain.nil ?_
    refine Ends.then ?_
    refine Cod.weaken (.cons (t := 4) rfl Sub.nil) SubB.nil ?_
    refine Cod.ret ?_
    refine Ends.ret1 (.inl rfl) Try.results25 (ResOK.tmp rfl trivial ?_)
    refine Imp.eq ?_; simp_all [whenE]

/-- drawref1.PointError -/
theorem PointError_spec (p : Pt) : FSpec Try.prog 10 [rep p] (rep (ptErr p)) := by
  refine FSpec.intro (n := 14) fnok10 Try.func10 rfl Try.ntmps10 rfl (fun w0 Mf => ?_)
  refine Cod.seq ?_
  refine Cod.region [] mixed (by kernel_rfl) ?_
  refine Chain.cons (StepOK.box .none (.tmp rfl (fun _ => trivial))) rfl ?_
  refine Chain.cons (StepOK.assign .none (.int (by decide))) rfl ?_
  refine Chain.nil ?_
  refine Ends.then ?_
  refine Cod.weaken (.cons (t := 1) rfl Sub.nil) SubB.nil ?_
  refine Cod.seq ?_
  refine Cod.region [] mixed (by kernel_rfl) ?_
  refine Chain.cons (StepOK.fieldAddr .none fd23_0 hfd23_0 (.tmp rfl (fun _ => trivial))) rfl ?_
  refine Chain.cons (StepOK.load .none ty3 (.tmp rfl (fun _ => trivial))) rfl ?_
  refine Chain.cons (StepOK.call .none (In_spec _ _ _) (.cons (.tmp rfl (fun _ => trivial)) (.cons (.int (by decide)) (.cons (.int (by decide)) .nil)))) rfl ?_
  refine Chain.cons (StepOK.not .none (.tmp rfl (fun _ => trivial))) rfl ?_
  refine Chain.cons (StepOK.move .none (.tmp rfl (fun _ => trivial))) rfl ?_
  refine Chain.cons (StepOK.fieldAddr (.at rfl rfl) fd23_1 hfd23_1 (.tmp rfl (fun _ => trivial))) rfl ?_
  refine Chain.cons (StepOK.load (.at rfl rfl) ty3 (.tmp rfl id)) rfl ?_
  refine Chain.cons (StepOK.call (.at rfl rfl) (In_spec _ _ _) (.cons (.tmp rfl id) (.cons (.int (by decide)) (.cons (.int (by decide)) .nil)))) rfl ?_
  refine Chain.cons (StepOK.not (.at rfl rfl) (.tmp rfl id)) rfl ?_
  refine Chain.cons (StepOK.pickOr .none (.tmp rfl (fun _ => trivial)) (.tmp rfl id)) rfl ?_
  refine Chain.cons (StepOK.call .none (When_spec _ _) (.cons (.tmp rfl (fun _ => trivial)) (.cons (.int (by decide)) .nil))) rfl ?_
  refine Chain.cons (StepOK.assign .none (.tmp rfl (fun _ => trivial))) rfl ?_
  refine Chain.nil ?_
  refine Ends.then ?_
  refine Cod.weaken (.cons (t := 2) rfl Sub.nil) SubB.nil ?_
  refine Cod.ret ?_
  refine Ends.ret1 (.inl rfl) Try.results10 (ResOK.tmp rfl trivial ?_)
  exact Imp.eq (ptErr_eq p).symm

/-- geom.points -/
theorem points_spec (l : List Pt) : FSpec Try.prog 79 [rep l] (rep (ptsErr l)) := by
  refine FSpec.intro (n := 18) fnok79 Try.func79 rfl Try.ntmps79 rfl (fun w0 Mf => ?_)
  refine Cod.fact (t := 0) rfl trivial rep_len (fun hlen0 => ?_)
  refine Cod.seq ?_
  refine Cod.region [] mixed (by kernel_rfl) ?_
  refine Chain.cons (StepOK.assign .none (.int (by decide))) rfl ?_
  refine Chain.nil ?_
  refine Ends.then ?_
  refine Cod.weaken (.cons (t := 0) rfl Sub.nil) SubB.nil ?_
  refine Cod.seq ?_
  refine Cod.seq ?_
  refine Cod.region [] mixed (by kernel_rfl) ?_
  refine Chain.cons (StepOK.move .none (.tmp rfl (fun _ => trivial))) rfl ?_
  refine Chain.cons (StepOK.len .none sl66 (.tmp rfl (fun _ => trivial))) rfl ?_
  refine Chain.cons (StepOK.move .none (.int (by decide))) rfl ?_
  refine Chain.nil ?_
  refine Ends.then ?_
  refine Cod.weaken (.cons (t := 6) rfl (.cons (t := 7) rfl (.cons (t := 8) rfl Sub.nil))) SubB.nil ?_
  refine Cod.block ?_
  refine Cod.loopK (ι := Nat) (fun i => [(8, ⟨True, rep ((i : Nat) : Int)⟩)]) (fun i => []) (fun i => l.length - i) (0) (fun i => i ≤ l.length ∧ ptsErr (l.take i) = 0) (⟨Nat.zero_le _, rfl⟩) (.cons (t := 8) (by rfl) Sub.nil) SubB.nil (.cons (t := 6) (by rfl) (.cons (t := 7) (by rfl) Sub.nil)) SubB.nil (fun i hi => ?_)
  refine Cod.seq ?_
  refine Cod.region [] mixed (by kernel_rfl) ?_
  refine Chain.cons (StepOK.lt .none (.tmp rfl (fun _ => trivial)) (.tmp rfl (fun _ => trivial))) rfl ?_
  refine Chain.nil ?_
  refine Ends.then ?_
  refine Cod.weaken (.cons (t := 6) rfl (.cons (t := 7) rfl (.cons (t := 8) rfl (.cons (t := 9) rfl Sub.nil)))) SubB.nil ?_
  refine Cod.seq ?_
  refine Cod.cond (t := 9) rfl trivial (fun hb1 => ?_) (fun hb1 => ?_)
  · try simp only [decide_eq_true_eq, decide_eq_false_iff_not, Bool.and_eq_true, Bool.or_eq_true, Bool.not_eq_true', Bool.not_eq_false', Bool.and_eq_false_iff, Bool.or_eq_false_iff, Int.not_lt, Int.not_le, Bool.true_eq_false, Bool.false_eq_true, true_and, and_true] at hb1
    refine Cod.skip ?_
    refine Ends.then ?_
    refine Cod.weaken (.cons (t := 6) rfl (.cons (t := 7) rfl (.cons (t := 8) rfl Sub.nil))) SubB.nil ?_
    refine Cod.seq ?_
    refine Cod.block ?_
    refine Cod.seq ?_
    refine Cod.region [([], none), ([], none), ([], some 4), ([4], some 4)] mixed (by kernel_rfl) ?_
    refine Chain.consA (StepOK.indexAddr .none sl66 ty23 (.tmp rfl (fun _ => trivial)) (.tmp rfl (fun _ => trivial)) (by intro _; omega)) rfl ?_
    refine Chain.consA (StepOK.load .none ty23 (.tmp rfl (fun _ => trivial))) rfl ?_
    refine Chain.alloc zo23 rfl rfl ?_
    refine Chain.store ty23 rfl (.tmp rfl (fun _ => trivial)) ?_
    refine Chain.nil ?_
    refine Ends.then ?_
    refine Cod.weaken (.cons (t := 6) rfl (.cons (t := 7) rfl (.cons (t := 8) rfl Sub.nil))) (.cons (t := 4) rfl SubB.nil) ?_
    refine Cod.seq ?_
    refine Cod.region [([4], none), ([], none), ([], none)] mixed (by kernel_rfl) ?_
    refine Chain.consA (StepOK.loadOwn .none ty23 rfl rfl) rfl ?_
    refine Chain.consA (StepOK.call .none (CheckPoint_spec _) (.cons (.tmp rfl (fun _ => trivial)) .nil)) rfl ?_
    refine Chain.consA (StepOK.assign .none (.tmp rfl (fun _ => trivial))) rfl ?_
    refine Chain.nil ?_
    refine Ends.then ?_
    refine Cod.weaken (.cons (t := 5) rfl (.cons (t := 6) rfl (.cons (t := 7) rfl (.cons (t := 8) rfl Sub.nil)))) SubB.nil ?_
    refine Cod.seq ?_
    refine Cod.region [] mixed (by kernel_rfl) ?_
    refine Chain.cons (StepOK.move .none (.tmp rfl (fun _ => trivial))) rfl ?_
    refine Chain.cons (StepOK.neI .none (.tmp rfl (fun _ => trivial)) (.int (by decide))) rfl ?_
    refine Chain.nil ?_
    refine Ends.then ?_
    refine Cod.weaken (.cons (t := 5) rfl (.cons (t := 6) rfl (.cons (t := 7) rfl (.cons (t := 8) rfl (.cons (t := 15) rfl Sub.nil))))) SubB.nil ?_
    refine Cod.cond (t := 15) rfl trivial (fun hb2 => ?_) (fun hb2 => ?_)
    · try simp only [decide_eq_true_eq, decide_eq_false_iff_not, Bool.and_eq_true, Bool.or_eq_true, Bool.not_eq_true', Bool.not_eq_false', Bool.and_eq_false_iff, Bool.or_eq_false_iff, Int.not_lt, Int.not_le, Bool.true_eq_false, Bool.false_eq_true, true_and, and_true] at hb2
      refine Cod.seq ?_
      refine Cod.region [] mixed (by kernel_rfl) ?_
      refine Chain.cons (StepOK.move .none (.tmp rfl (fun _ => trivial))) rfl ?_
      refine Chain.cons (StepOK.assign .none (.tmp rfl (fun _ => trivial))) rfl ?_
      refine Chain.nil ?_
      refine Ends.then ?_
      refine Cod.weaken (.cons (t := 2) rfl Sub.nil) SubB.nil ?_
      refine Cod.ret ?_
      refine Ends.blkRet ?_
      refine Ends.thenRet ?_
      refine Ends.thenRet ?_
      refine Ends.blkRet ?_
      refine Ends.thenRet ?_
      refine Ends.ret1 (.inl rfl) Try.results79 (ResOK.tmp rfl trivial ?_)
      exact Imp.eq (ptsErr_found hi.2 (by omega) (by assumption)).symm
    · try simp only [decide_eq_true_eq, decide_eq_false_iff_not, Bool.and_eq_true, Bool.or_eq_true, Bool.not_eq_true', Bool.not_eq_false', Bool.and_eq_false_iff, Bool.or_eq_false_iff, Int.not_lt, Int.not_le, Bool.true_eq_false, Bool.false_eq_true, true_and, and_true] at hb2
      refine Cod.skip ?_
      refine Ends.blkNormal ?_
      refine Ends.then ?_
      refine Cod.weaken (.cons (t := 6) rfl (.cons (t := 7) rfl (.cons (t := 8) rfl Sub.nil))) SubB.nil ?_
      refine Cod.region [] mixed (by kernel_rfl) ?_
      refine Chain.cons (StepOK.add .none (.tmp rfl (fun _ => trivial)) (.int (by decide)) (by intro _ h1 h2; unfold InI at *; omega)) rfl ?_
      refine Chain.cons (StepOK.move .none (.tmp rfl (fun _ => trivial))) rfl ?_
      refine Chain.nil ?_
      refine Ends.againK (i + 1) ?_ (.cons (t := 8) (look_eq (by rfl) ?_) (.cons (t := 6) (by rfl) (.cons (t := 7) (by rfl) Sub.nil))) SubB.nil
      all_goals (first | exact ⟨by omega, by omega, ptsErr_next hi.2 (by omega) (by assumption)⟩ | omega | rfl)
  · try simp only [decide_eq_true_eq, decide_eq_false_iff_not, Bool.and_eq_true, Bool.or_eq_true, Bool.not_eq_true', Bool.not_eq_false', Bool.and_eq_false_iff, Bool.or_eq_false_iff, Int.not_lt, Int.not_le, Bool.true_eq_false, Bool.false_eq_true, true_and, and_true] at hb1
    refine Cod.exit ?_
    refine Ends.thenExit ?_
    refine Ends.thenExit ?_
    refine Ends.blkExit ?_
    refine Ends.then ?_
    refine Cod.weaken Sub.nil SubB.nil ?_
    refine Cod.seq ?_
    refine Cod.region [] mixed (by kernel_rfl) ?_
    refine Chain.cons (StepOK.assign .none (.int (by decide))) rfl ?_
    refine Chain.nil ?_
    refine Ends.then ?_
    refine Cod.weaken (.cons (t := 2) rfl Sub.nil) SubB.nil ?_
    refine Cod.ret ?_
    refine Ends.ret1 (.inl rfl) Try.results79 (ResOK.tmp rfl trivial ?_)
    exact Imp.eq (ptsErr_none hi (by omega)).symm

/-- drawref1.First -/
theorem First_spec (l : List Int) : FSpec Try.prog 9 [rep l] (rep (firstE l)) := by
  refine FSpec.intro (n := 15) fnok9 Try.func9 rfl Try.ntmps9 rfl (fun w0 Mf => ?_)
  refine Cod.fact (t := 0) rfl trivial rep_len (fun hlen0 => ?_)
  refine Cod.seq ?_
  refine Cod.region [] mixed (by kernel_rfl) ?_
  refine Chain.cons (StepOK.assign .none (.int (by decide))) rfl ?_
  refine Chain.nil ?_
  refine Ends.then ?_
  refine Cod.weaken (.cons (t := 0) rfl Sub.nil) SubB.nil ?_
  refine Cod.seq ?_
  refine Cod.seq ?_
  refine Cod.region [] mixed (by kernel_rfl) ?_
  refine Chain.cons (StepOK.move .none (.tmp rfl (fun _ => trivial))) rfl ?_
  refine Chain.cons (StepOK.len .none sl94 (.tmp rfl (fun _ => trivial))) rfl ?_
  refine Chain.cons (StepOK.move .none (.int (by decide))) rfl ?_
  refine Chain.nil ?_
  refine Ends.then ?_
  refine Cod.weaken (.cons (t := 5) rfl (.cons (t := 6) rfl (.cons (t := 7) rfl Sub.nil))) SubB.nil ?_
  refine Cod.block ?_
  refine Cod.loopK (ι := Nat) (fun i => [(7, ⟨True, rep ((i : Nat) : Int)⟩)]) (fun i => []) (fun i => l.length - i) (0) (fun i => i ≤ l.length ∧ firstE (l.take i) = 0) (⟨Nat.zero_le _, rfl⟩) (.cons (t := 7) (by rfl) Sub.nil) SubB.nil (.cons (t := 5) (by rfl) (.cons (t := 6) (by rfl) Sub.nil)) SubB.nil (fun i hi => ?_)
  refine Cod.seq ?_
  refine Cod.region [] mixed (by kernel_rfl) ?_
  refine Chain.cons (StepOK.lt .none (.tmp rfl (fun _ => trivial)) (.tmp rfl (fun _ => trivial))) rfl ?_
  refine Chain.nil ?_
  refine Ends.then ?_
  refine Cod.weaken (.cons (t := 5) rfl (.cons (t := 6) rfl (.cons (t := 7) rfl (.cons (t := 8) rfl Sub.nil)))) SubB.nil ?_
  refine Cod.seq ?_
  refine Cod.cond (t := 8) rfl trivial (fun hb1 => ?_) (fun hb1 => ?_)
  · try simp only [decide_eq_true_eq, decide_eq_false_iff_not, Bool.and_eq_true, Bool.or_eq_true, Bool.not_eq_true', Bool.not_eq_false', Bool.and_eq_false_iff, Bool.or_eq_false_iff, Int.not_lt, Int.not_le, Bool.true_eq_false, Bool.false_eq_true, true_and, and_true] at hb1
    refine Cod.skip ?_
    refine Ends.then ?_
    refine Cod.weaken (.cons (t := 5) rfl (.cons (t := 6) rfl (.cons (t := 7) rfl Sub.nil))) SubB.nil ?_
    refine Cod.seq ?_
    refine Cod.block ?_
    refine Cod.seq ?_
    refine Cod.region [] mixed (by kernel_rfl) ?_
    refine Chain.cons (StepOK.indexAddr .none sl94 ty24 (.tmp rfl (fun _ => trivial)) (.tmp rfl (fun _ => trivial)) (by intro _; omega)) rfl ?_
    refine Chain.cons (StepOK.load .none ty24 (.tmp rfl (fun _ => trivial))) rfl ?_
    refine Chain.cons (StepOK.assign .none (.tmp rfl (fun _ => trivial))) rfl ?_
    refine Chain.nil ?_
    refine Ends.then ?_
    refine Cod.weaken (.cons (t := 4) rfl (.cons (t := 5) rfl (.cons (t := 6) rfl (.cons (t := 7) rfl Sub.nil)))) SubB.nil ?_
    refine Cod.seq ?_
    refine Cod.region [] mixed (by kernel_rfl) ?_
    refine Chain.cons (StepOK.move .none (.tmp rfl (fun _ => trivial))) rfl ?_
    refine Chain.cons (StepOK.neI .none (.tmp rfl (fun _ => trivial)) (.int (by decide))) rfl ?_
    refine Chain.nil ?_
    refine Ends.then ?_
    refine Cod.weaken (.cons (t := 4) rfl (.cons (t := 5) rfl (.cons (t := 6) rfl (.cons (t := 7) rfl (.cons (t := 12) rfl Sub.nil))))) SubB.nil ?_
    refine Cod.cond (t := 12) rfl trivial (fun hb2 => ?_) (fun hb2 => ?_)
    · try simp only [decide_eq_true_eq, decide_eq_false_iff_not, Bool.and_eq_true, Bool.or_eq_true, Bool.not_eq_true', Bool.not_eq_false', Bool.and_eq_false_iff, Bool.or_eq_false_iff, Int.not_lt, Int.not_le, Bool.true_eq_false, Bool.false_eq_true, true_and, and_true] at hb2
      refine Cod.seq ?_
      refine Cod.region [] mixed (by kernel_rfl) ?_
      refine Chain.cons (StepOK.move .none (.tmp rfl (fun _ => trivial))) rfl ?_
      refine Chain.cons (StepOK.assign .none (.tmp rfl (fun _ => trivial))) rfl ?_
      refine Chain.nil ?_
      refine Ends.then ?_
      refine Cod.weaken (.cons (t := 2) rfl Sub.nil) SubB.nil ?_
      refine Cod.ret ?_
      refine Ends.blkRet ?_
      refine Ends.thenRet ?_
      refine Ends.thenRet ?_
      refine Ends.blkRet ?_
      refine Ends.thenRet ?_
      refine Ends.ret1 (.inl rfl) Try.results9 (ResOK.tmp rfl trivial ?_)
      exact Imp.eq (firstE_found hi.2 (by omega) (by assumption)).symm
    · try simp only [decide_eq_true_eq, decide_eq_false_iff_not, Bool.and_eq_true, Bool.or_eq_true, Bool.not_eq_true', Bool.not_eq_false', Bool.and_eq_false_iff, Bool.or_eq_false_iff, Int.not_lt, Int.not_le, Bool.true_eq_false, Bool.false_eq_true, true_and, and_true] at hb2
      refine Cod.skip ?_
      refine Ends.blkNormal ?_
      refine Ends.then ?_
      refine Cod.weaken (.cons (t := 5) rfl (.cons (t := 6) rfl (.cons (t := 7) rfl Sub.nil))) SubB.nil ?_
      refine Cod.region [] mixed (by kernel_rfl) ?_
      refine Chain.cons (StepOK.add .none (.tmp rfl (fun _ => trivial)) (.int (by decide)) (by intro _ h1 h2; unfold InI at *; omega)) rfl ?_
      refine Chain.cons (StepOK.move .none (.tmp rfl (fun _ => trivial))) rfl ?_
      refine Chain.nil ?_
      refine Ends.againK (i + 1) ?_ (.cons (t := 7) (look_eq (by rfl) ?_) (.cons (t := 5) (by rfl) (.cons (t := 6) (by rfl) Sub.nil))) SubB.nil
      all_goals (first | exact ⟨by omega, by omega, firstE_next hi.2 (by omega) (by assumption)⟩ | omega | rfl)
  · try simp only [decide_eq_true_eq, decide_eq_false_iff_not, Bool.and_eq_true, Bool.or_eq_true, Bool.not_eq_true', Bool.not_eq_false', Bool.and_eq_false_iff, Bool.or_eq_false_iff, Int.not_lt, Int.not_le, Bool.true_eq_false, Bool.false_eq_true, true_and, and_true] at hb1
    refine Cod.exit ?_
    refine Ends.thenExit ?_
    refine Ends.thenExit ?_
    refine Ends.blkExit ?_
    refine Ends.then ?_
    refine Cod.weaken Sub.nil SubB.nil ?_
    refine Cod.seq ?_
    refine Cod.region [] mixed (by kernel_rfl) ?_
    refine Chain.cons (StepOK.assign .none (.int (by decide))) rfl ?_
    refine Chain.nil ?_
    refine Ends.then ?_
    refine Cod.weaken (.cons (t := 2) rfl Sub.nil) SubB.nil ?_
    refine Cod.ret ?_
    refine Ends.ret1 (.inl rfl) Try.results9 (ResOK.tmp rfl trivial ?_)
    exact Imp.eq (firstE_none hi (by omega)).symm

/-- geom.bend -/
theorem bend_spec (a b c : Pt) : FSpec Try.prog 80 [rep a, rep b, rep c] (rep (bendW a b c)) := by
  refine FSpec.intro (n := 31) fnok80 Try.func80 rfl Try.ntmps80 rfl (fun w0 Mf => ?_)
  refine Cod.seq ?_
  refine Cod.region [] mixed (by kernel_rfl) ?_
  refine Chain.cons (StepOK.box .none (.tmp rfl (fun _ => trivial))) rfl ?_
  refine Chain.cons (StepOK.box .none (.tmp rfl (fun _ => trivial))) rfl ?_
  refine Chain.cons (StepOK.box .none (.tmp rfl (fun _ => trivial))) rfl ?_
  refine Chain.cons (StepOK.assign .none (.int (by decide))) rfl ?_
  refine Chain.nil ?_
  refine Ends.then ?_
  refine Cod.weaken (.cons (t := 3) rfl (.cons (t := 4) rfl (.cons (t := 5) rfl Sub.nil))) SubB.nil ?_
  refine Cod.seq ?_
  refine Cod.region [] mixed (by kernel_rfl) ?_
  refine Chain.cons (StepOK.fieldAddr .none fd23_0 hfd23_0 (.tmp rfl (fun _ => trivial))) rfl ?_
  refine Chain.cons (StepOK.load .none ty3 (.tmp rfl (fun _ => trivial))) rfl ?_
  refine Chain.cons (StepOK.fieldAddr .none fd23_0 hfd23_0 (.tmp rfl (fun _ => trivial))) rfl ?_
  refine Chain.cons (StepOK.load .none ty3 (.tmp rfl (fun _ => trivial))) rfl ?_
  refine Chain.cons (StepOK.subW .none (.tmp rfl (fun _ => trivial)) (.tmp rfl (fun _ => trivial))) rfl ?_
  refine Chain.cons (StepOK.fieldAddr .none fd23_1 hfd23_1 (.tmp rfl (fun _ => trivial))) rfl ?_
  refine Chain.cons (StepOK.load .none ty3 (.tmp rfl (fun _ => trivial))) rfl ?_
  refine Chain.cons (StepOK.fieldAddr .none fd23_1 hfd23_1 (.tmp rfl (fun _ => trivial))) rfl ?_
  refine Chain.cons (StepOK.load .none ty3 (.tmp rfl (fun _ => trivial))) rfl ?_
  refine Chain.cons (StepOK.subW .none (.tmp rfl (fun _ => trivial)) (.tmp rfl (fun _ => trivial))) rfl ?_
  refine Chain.cons (StepOK.mulW .none (.tmp rfl (fun _ => trivial)) (.tmp rfl (fun _ => trivial))) rfl ?_
  refine Chain.cons (StepOK.fieldAddr .none fd23_1 hfd23_1 (.tmp rfl (fun _ => trivial))) rfl ?_
  refine Chain.cons (StepOK.load .none ty3 (.tmp rfl (fun _ => trivial))) rfl ?_
  refine Chain.cons (StepOK.fieldAddr .none fd23_1 hfd23_1 (.tmp rfl (fun _ => trivial))) rfl ?_
  refine Chain.cons (StepOK.load .none ty3 (.tmp rfl (fun _ => trivial))) rfl ?_
  refine Chain.cons (StepOK.subW .none (.tmp rfl (fun _ => trivial)) (.tmp rfl (fun _ => trivial))) rfl ?_
  refine Chain.cons (StepOK.fieldAddr .none fd23_0 hfd23_0 (.tmp rfl (fun _ => trivial))) rfl ?_
  refine Chain.cons (StepOK.load .none ty3 (.tmp rfl (fun _ => trivial))) rfl ?_
  refine Chain.cons (StepOK.fieldAddr .none fd23_0 hfd23_0 (.tmp rfl (fun _ => trivial))) rfl ?_
  refine Chain.cons (StepOK.load .none ty3 (.tmp rfl (fun _ => trivial))) rfl ?_
  refine Chain.cons (StepOK.subW .none (.tmp rfl (fun _ => trivial)) (.tmp rfl (fun _ => trivial))) rfl ?_
  refine Chain.cons (StepOK.mulW .none (.tmp rfl (fun _ => trivial)) (.tmp rfl (fun _ => trivial))) rfl ?_
  refine Chain.cons (StepOK.subW .none (.tmp rfl (fun _ => trivial)) (.tmp rfl (fun _ => trivial))) rfl ?_
  refine Chain.cons (StepOK.call .none (sign_spec _) (.cons (.tmp rfl (fun _ => trivial)) .nil)) rfl ?_
  refine Chain.cons (StepOK.assign .none (.tmp rfl (fun _ => trivial))) rfl ?_
  refine Chain.nil ?_
  refine Ends.then ?_
  refine Cod.weaken (.cons (t := 6) rfl Sub.nil) SubB.nil ?_
  refine Cod.ret ?_
  refine Ends.ret1 (.inl rfl) Try.results80 (ResOK.tmp rfl trivial ?_)
  exact Imp.refl

/-- drawref1.BendOf -/
theorem BendOf_spec (a b c : Pt) : FSpec Try.prog 16 [rep a, rep b, rep c] (rep (bendW a b c)) := by
  refine FSpec.intro (n := 31) fnok16 Try.func16 rfl Try.ntmps16 rfl (fun w0 Mf => ?_)
  refine Cod.seq ?_
  refine Cod.region [] mixed (by kernel_rfl) ?_
  refine Chain.cons (StepOK.box .none (.tmp rfl (fun _ => trivial))) rfl ?_
  refine Chain.cons (StepOK.box .none (.tmp rfl (fun _ => trivial))) rfl ?_
  refine Chain.cons (StepOK.box .none (.tmp rfl (fun _ => trivial))) rfl ?_
  refine Chain.cons (StepOK.assign .none (.int (by decide))) rfl ?_
  refine Chain.nil ?_
  refine Ends.then ?_
  refine Cod.weaken (.cons (t := 3) rfl (.cons (t := 4) rfl (.cons (t := 5) rfl Sub.nil))) SubB.nil ?_
  refine Cod.seq ?_
  refine Cod.region [] mixed (by kernel_rfl) ?_
  refine Chain.cons (StepOK.fieldAddr .none fd23_0 hfd23_0 (.tmp rfl (fun _ => trivial))) rfl ?_
  refine Chain.cons (StepOK.load .none ty3 (.tmp rfl (fun _ => trivial))) rfl ?_
  refine Chain.cons (StepOK.fieldAddr .none fd23_0 hfd23_0 (.tmp rfl (fun _ => trivial))) rfl ?_
  refine Chain.cons (StepOK.load .none ty3 (.tmp rfl (fun _ => trivial))) rfl ?_
  refine Chain.cons (StepOK.subW .none (.tmp rfl (fun _ => trivial)) (.tmp rfl (fun _ => trivial))) rfl ?_
  refine Chain.cons (StepOK.fieldAddr .none fd23_1 hfd23_1 (.tmp rfl (fun _ => trivial))) rfl ?_
  refine Chain.cons (StepOK.load .none ty3 (.tmp rfl (fun _ => trivial))) rfl ?_
  refine Chain.cons (StepOK.fieldAddr .none fd23_1 hfd23_1 (.tmp rfl (fun _ => trivial))) rfl ?_
  refine Chain.cons (StepOK.load .none ty3 (.tmp rfl (fun _ => trivial))) rfl ?_
  refine Chain.cons (StepOK.subW .none (.tmp rfl (fun _ => trivial)) (.tmp rfl (fun _ => trivial))) rfl ?_
  refine Chain.cons (StepOK.mulW .none (.tmp rfl (fun _ => trivial)) (.tmp rfl (fun _ => trivial))) rfl ?_
  refine Chain.cons (StepOK.fieldAddr .none fd23_1 hfd23_1 (.tmp rfl (fun _ => trivial))) rfl ?_
  refine Chain.cons (StepOK.load .none ty3 (.tmp rfl (fun _ => trivial))) rfl ?_
  refine Chain.cons (StepOK.fieldAddr .none fd23_1 hfd23_1 (.tmp rfl (fun _ => trivial))) rfl ?_
  refine Chain.cons (StepOK.load .none ty3 (.tmp rfl (fun _ => trivial))) rfl ?_
  refine Chain.cons (StepOK.subW .none (.tmp rfl (fun _ => trivial)) (.tmp rfl (fun _ => trivial))) rfl ?_
  refine Chain.cons (StepOK.fieldAddr .none fd23_0 hfd23_0 (.tmp rfl (fun _ => trivial))) rfl ?_
  refine Chain.cons (StepOK.load .none ty3 (.tmp rfl (fun _ => trivial))) rfl ?_
  refine Chain.cons (StepOK.fieldAddr .none fd23_0 hfd23_0 (.tmp rfl (fun _ => trivial))) rfl ?_
  refine Chain.cons (StepOK.load .none ty3 (.tmp rfl (fun _ => trivial))) rfl ?_
  refine Chain.cons (StepOK.subW .none (.tmp rfl (fun _ => trivial)) (.tmp rfl (fun _ => trivial))) rfl ?_
  refine Chain.cons (StepOK.mulW .none (.tmp rfl (fun _ => trivial)) (.tmp rfl (fun _ => trivial))) rfl ?_
  refine Chain.cons (StepOK.subW .none (.tmp rfl (fun _ => trivial)) (.tmp rfl (fun _ => trivial))) rfl ?_
  refine Chain.cons (StepOK.call .none (Sign_spec _) (.cons (.tmp rfl (fun _ => trivial)) .nil)) rfl ?_
  refine Chain.cons (StepOK.assign .none (.tmp rfl (fun _ => trivial))) rfl ?_
  refine Chain.nil ?_
  refine Ends.then ?_
  refine Cod.weaken (.cons (t := 6) rfl Sub.nil) SubB.nil ?_
  refine Cod.ret ?_
  refine Ends.ret1 (.inl rfl) Try.results16 (ResOK.tmp rfl trivial ?_)
  exact Imp.refl

/-- geom.between -/
theorem between_spec (a b p : Pt) : FSpec Try.prog 112 [rep a, rep b, rep p] (rep (betweenB a b p)) := by
  refine FSpec.intro (n := 45) fnok112 Try.func112 rfl Try.ntmps112 rfl (fun w0 Mf => ?_)
  refine Cod.seq ?_
  refine Cod.region [] mixed (by kernel_rfl) ?_
  refine Chain.cons (StepOK.box .none (.tmp rfl (fun _ => trivial))) rfl ?_
  refine Chain.cons (StepOK.box .none (.tmp rfl (fun _ => trivial))) rfl ?_
  refine Chain.cons (StepOK.box .none (.tmp rfl (fun _ => trivial))) rfl ?_
  refine Chain.cons (StepOK.assign .none .bool) rfl ?_
  refine Chain.nil ?_
  refine Ends.then ?_
  refine Cod.weaken (.cons (t := 3) rfl (.cons (t := 4) rfl (.cons (t := 5) rfl Sub.nil))) SubB.nil ?_
  refine Cod.seq ?_
  refine Cod.region [] mixed (by kernel_rfl) ?_
  refine Chain.cons (StepOK.fieldAddr .none fd23_0 hfd23_0 (.tmp rfl (fun _ => trivial))) rfl ?_
  refine Chain.cons (StepOK.load .none ty3 (.tmp rfl (fun _ => trivial))) rfl ?_
  refine Chain.cons (StepOK.fieldAddr .none fd23_0 hfd23_0 (.tmp rfl (fun _ => trivial))) rfl ?_
  refine Chain.cons (StepOK.load .none ty3 (.tmp rfl (fun _ => trivial))) rfl ?_
  refine Chain.cons (StepOK.fieldAddr .none fd23_0 hfd23_0 (.tmp rfl (fun _ => trivial))) rfl ?_
  refine Chain.cons (StepOK.load .none ty3 (.tmp rfl (fun _ => trivial))) rfl ?_
  refine Chain.cons (StepOK.min2 .none (.tmp rfl (fun _ => trivial)) (.tmp rfl (fun _ => trivial))) rfl ?_
  refine Chain.cons (StepOK.ge .none (.tmp rfl (fun _ => trivial)) (.tmp rfl (fun _ => trivial))) rfl ?_
  refine Chain.cons (StepOK.move .none (.tmp rfl (fun _ => trivial))) rfl ?_
  refine Chain.cons (StepOK.fieldAddr (.at rfl rfl) fd23_0 hfd23_0 (.tmp rfl (fun _ => trivial))) rfl ?_
  refine Chain.cons (StepOK.load (.at rfl rfl) ty3 (.tmp rfl id)) rfl ?_
  refine Chain.cons (StepOK.fieldAddr (.at rfl rfl) fd23_0 hfd23_0 (.tmp rfl (fun _ => trivial))) rfl ?_
  refine Chain.cons (StepOK.load (.at rfl rfl) ty3 (.tmp rfl id)) rfl ?_
  refine Chain.cons (StepOK.fieldAddr (.at rfl rfl) fd23_0 hfd23_0 (.tmp rfl (fun _ => trivial))) rfl ?_
  refine Chain.cons (StepOK.load (.at rfl rfl) ty3 (.tmp rfl id)) rfl ?_
  refine Chain.cons (StepOK.max2 (.at rfl rfl) (.tmp rfl id) (.tmp rfl id)) rfl ?_
  refine Chain.cons (StepOK.le (.at rfl rfl) (.tmp rfl id) (.tmp rfl id)) rfl ?_
  refine Chain.cons (StepOK.pickAnd .none (.tmp rfl (fun _ => trivial)) (.tmp rfl id)) rfl ?_
  refine Chain.cons (StepOK.move .none (.tmp rfl (fun _ => trivial))) rfl ?_
  refine Chain.cons (StepOK.fieldAddr (.at rfl rfl) fd23_1 hfd23_1 (.tmp rfl (fun _ => trivial))) rfl ?_
  refine Chain.cons (StepOK.load (.at rfl rfl) ty3 (.tmp rfl id)) rfl ?_
  refine Chain.cons (StepOK.fieldAddr (.at rfl rfl) fd23_1 hfd23_1 (.tmp rfl (fun _ => trivial))) rfl ?_
  refine Chain.cons (StepOK.load (.at rfl rfl) ty3 (.tmp rfl id)) rfl ?_
  refine Chain.cons (StepOK.fieldAddr (.at rfl rfl) fd23_1 hfd23_1 (.tmp rfl (fun _ => trivial))) rfl ?_
  refine Chain.cons (StepOK.load (.at rfl rfl) ty3 (.tmp rfl id)) rfl ?_
  refine Chain.cons (StepOK.min2 (.at rfl rfl) (.tmp rfl id) (.tmp rfl id)) rfl ?_
  refine Chain.cons (StepOK.ge (.at rfl rfl) (.tmp rfl id) (.tmp rfl id)) rfl ?_
  refine Chain.cons (StepOK.pickAnd .none (.tmp rfl (fun _ => trivial)) (.tmp rfl id)) rfl ?_
  refine Chain.cons (StepOK.move .none (.tmp rfl (fun _ => trivial))) rfl ?_
  refine Chain.cons (StepOK.fieldAddr (.at rfl rfl) fd23_1 hfd23_1 (.tmp rfl (fun _ => trivial))) rfl ?_
  refine Chain.cons (StepOK.load (.at rfl rfl) ty3 (.tmp rfl id)) rfl ?_
  refine Chain.cons (StepOK.fieldAddr (.at rfl rfl) fd23_1 hfd23_1 (.tmp rfl (fun _ => trivial))) rfl ?_
  refine Chain.cons (StepOK.load (.at rfl rfl) ty3 (.tmp rfl id)) rfl ?_
  refine Chain.cons (StepOK.fieldAddr (.at rfl rfl) fd23_1 hfd23_1 (.tmp rfl (fun _ => trivial))) rfl ?_
  refine Chain.cons (StepOK.load (.at rfl rfl) ty3 (.tmp rfl id)) rfl ?_
  refine Chain.cons (StepOK.max2 (.at rfl rfl) (.tmp rfl id) (.tmp rfl id)) rfl ?_
  refine Chain.cons (StepOK.le (.at rfl rfl) (.tmp rfl id) (.tmp rfl id)) rfl ?_
  refine Chain.cons (StepOK.pickAnd .none (.tmp rfl (fun _ => trivial)) (.tmp rfl id)) rfl ?_
  refine Chain.cons (StepOK.assign .none (.tmp rfl (fun _ => trivial))) rfl ?_
  refine Chain.nil ?_
  refine Ends.then ?_
  refine Cod.weaken (.cons (t := 6) rfl Sub.nil) SubB.nil ?_
  refine Cod.ret ?_
  refine Ends.ret1 (.inl rfl) Try.results112 (ResOK.tmp rfl trivial ?_)
  exact Imp.eq (betweenB_eq a b p)

/-- geom.on -/
theorem on_spec (a b p : Pt) : FSpec Try.prog 81 [rep a, rep b, rep p] (rep (onW a b p)) := by
  refine FSpec.intro (n := 36) fnok81 Try.func81 rfl Try.ntmps81 rfl (fun w0 Mf => ?_)
  refine Cod.seq ?_
  refine Cod.region [] mixed (by kernel_rfl) ?_
  refine Chain.cons (StepOK.box .none (.tmp rfl (fun _ => trivial))) rfl ?_
  refine Chain.cons (StepOK.box .none (.tmp rfl (fun _ => trivial))) rfl ?_
  refine Chain.cons (StepOK.box .none (.tmp rfl (fun _ => trivial))) rfl ?_
  refine Chain.cons (StepOK.assign .none .bool) rfl ?_
  refine Chain.nil ?_
  refine Ends.then ?_
  refine Cod.weaken (.cons (t := 3) rfl (.cons (t := 4) rfl (.cons (t := 5) rfl Sub.nil))) SubB.nil ?_
  refine Cod.seq ?_
  refine Cod.region [] mixed (by kernel_rfl) ?_
  refine Chain.cons (StepOK.fieldAddr .none fd23_0 hfd23_0 (.tmp rfl (fun _ => trivial))) rfl ?_
  refine Chain.cons (StepOK.load .none ty3 (.tmp rfl (fun _ => trivial))) rfl ?_
  refine Chain.cons (StepOK.fieldAddr .none fd23_0 hfd23_0 (.tmp rfl (fun _ => trivial))) rfl ?_
  refine Chain.cons (StepOK.load .none ty3 (.tmp rfl (fun _ => trivial))) rfl ?_
  refine Chain.cons (StepOK.subW .none (.tmp rfl (fun _ => trivial)) (.tmp rfl (fun _ => trivial))) rfl ?_
  refine Chain.cons (StepOK.fieldAddr .none fd23_1 hfd23_1 (.tmp rfl (fun _ => trivial))) rfl ?_
  refine Chain.cons (StepOK.load .none ty3 (.tmp rfl (fun _ => trivial))) rfl ?_
  refine Chain.cons (StepOK.fieldAddr .none fd23_1 hfd23_1 (.tmp rfl (fun _ => trivial))) rfl ?_
  refine Chain.cons (StepOK.load .none ty3 (.tmp rfl (fun _ => trivial))) rfl ?_
  refine Chain.cons (StepOK.subW .none (.tmp rfl (fun _ => trivial)) (.tmp rfl (fun _ => trivial))) rfl ?_
  refine Chain.cons (StepOK.mulW .none (.tmp rfl (fun _ => trivial)) (.tmp rfl (fun _ => trivial))) rfl ?_
  refine Chain.cons (StepOK.fieldAddr .none fd23_1 hfd23_1 (.tmp rfl (fun _ => trivial))) rfl ?_
  refine Chain.cons (StepOK.load .none ty3 (.tmp rfl (fun _ => trivial))) rfl ?_
  refine Chain.cons (StepOK.fieldAddr .none fd23_1 hfd23_1 (.tmp rfl (fun _ => trivial))) rfl ?_
  refine Chain.cons (StepOK.load .none ty3 (.tmp rfl (fun _ => trivial))) rfl ?_
  refine Chain.cons (StepOK.subW .none (.tmp rfl (fun _ => trivial)) (.tmp rfl (fun _ => trivial))) rfl ?_
  refine Chain.cons (StepOK.fieldAddr .none fd23_0 hfd23_0 (.tmp rfl (fun _ => trivial))) rfl ?_
  refine Chain.cons (StepOK.load .none ty3 (.tmp rfl (fun _ => trivial))) rfl ?_
  refine Chain.cons (StepOK.fieldAddr .none fd23_0 hfd23_0 (.tmp rfl (fun _ => trivial))) rfl ?_
  refine Chain.cons (StepOK.load .none ty3 (.tmp rfl (fun _ => trivial))) rfl ?_
  refine Chain.cons (StepOK.subW .none (.tmp rfl (fun _ => trivial)) (.tmp rfl (fun _ => trivial))) rfl ?_
  refine Chain.cons (StepOK.mulW .none (.tmp rfl (fun _ => trivial)) (.tmp rfl (fun _ => trivial))) rfl ?_
  refine Chain.cons (StepOK.eqI .none (.tmp rfl (fun _ => trivial)) (.tmp rfl (fun _ => trivial))) rfl ?_
  refine Chain.cons (StepOK.move .none (.tmp rfl (fun _ => trivial))) rfl ?_
  refine Chain.cons (StepOK.load (.at rfl rfl) ty23 (.tmp rfl (fun _ => trivial))) rfl ?_
  refine Chain.cons (StepOK.load (.at rfl rfl) ty23 (.tmp rfl (fun _ => trivial))) rfl ?_
  refine Chain.cons (StepOK.load (.at rfl rfl) ty23 (.tmp rfl (fun _ => trivial))) rfl ?_
  refine Chain.cons (StepOK.call (.at rfl rfl) (between_spec _ _ _) (.cons (.tmp rfl id) (.cons (.tmp rfl id) (.cons (.tmp rfl id) .nil)))) rfl ?_
  refine Chain.cons (StepOK.pickAnd .none (.tmp rfl (fun _ => trivial)) (.tmp rfl id)) rfl ?_
  refine Chain.cons (StepOK.assign .none (.tmp rfl (fun _ => trivial))) rfl ?_
  refine Chain.nil ?_
  refine Ends.then ?_
  refine Cod.weaken (.cons (t := 6) rfl Sub.nil) SubB.nil ?_
  refine Cod.ret ?_
  refine Ends.ret1 (.inl rfl) Try.results81 (ResOK.tmp rfl trivial ?_)
  exact Imp.refl

/-- drawref1.on -/
theorem Ron_spec (a b p : Pt) : FSpec Try.prog 85 [rep a, rep b, rep p] (rep (onW a b p)) := by
  refine FSpec.intro (n := 60) fnok85 Try.func85 rfl Try.ntmps85 rfl (fun w0 Mf => ?_)
  refine Cod.seq ?_
  refine Cod.region [] mixed (by kernel_rfl) ?_
  refine Chain.cons (StepOK.box .none (.tmp rfl (fun _ => trivial))) rfl ?_
  refine Chain.cons (StepOK.box .none (.tmp rfl (fun _ => trivial))) rfl ?_
  refine Chain.cons (StepOK.box .none (.tmp rfl (fun _ => trivial))) rfl ?_
  refine Chain.cons (StepOK.assign .none .bool) rfl ?_
  refine Chain.nil ?_
  refine Ends.then ?_
  refine Cod.weaken (.cons (t := 3) rfl (.cons (t := 4) rfl (.cons (t := 5) rfl Sub.nil))) SubB.nil ?_
  refine Cod.seq ?_
  refine Cod.region [] mixed (by kernel_rfl) ?_
  refine Chain.cons (StepOK.fieldAddr .none fd23_0 hfd23_0 (.tmp rfl (fun _ => trivial))) rfl ?_
  refine Chain.cons (StepOK.load .none ty3 (.tmp rfl (fun _ => trivial))) rfl ?_
  refine Chain.cons (StepOK.fieldAddr .none fd23_0 hfd23_0 (.tmp rfl (fun _ => trivial))) rfl ?_
  refine Chain.cons (StepOK.load .none ty3 (.tmp rfl (fun _ => trivial))) rfl ?_
  refine Chain.cons (StepOK.subW .none (.tmp rfl (fun _ => trivial)) (.tmp rfl (fun _ => trivial))) rfl ?_
  refine Chain.cons (StepOK.fieldAddr .none fd23_1 hfd23_1 (.tmp rfl (fun _ => trivial))) rfl ?_
  refine Chain.cons (StepOK.load .none ty3 (.tmp rfl (fun _ => trivial))) rfl ?_
  refine Chain.cons (StepOK.fieldAddr .none fd23_1 hfd23_1 (.tmp rfl (fun _ => trivial))) rfl ?_
  refine Chain.cons (StepOK.load .none ty3 (.tmp rfl (fun _ => trivial))) rfl ?_
  refine Chain.cons (StepOK.subW .none (.tmp rfl (fun _ => trivial)) (.tmp rfl (fun _ => trivial))) rfl ?_
  refine Chain.cons (StepOK.mulW .none (.tmp rfl (fun _ => trivial)) (.tmp rfl (fun _ => trivial))) rfl ?_
  refine Chain.cons (StepOK.fieldAddr .none fd23_1 hfd23_1 (.tmp rfl (fun _ => trivial))) rfl ?_
  refine Chain.cons (StepOK.load .none ty3 (.tmp rfl (fun _ => trivial))) rfl ?_
  refine Chain.cons (StepOK.fieldAddr .none fd23_1 hfd23_1 (.tmp rfl (fun _ => trivial))) rfl ?_
  refine Chain.cons (StepOK.load .none ty3 (.tmp rfl (fun _ => trivial))) rfl ?_
  refine Chain.cons (StepOK.subW .none (.tmp rfl (fun _ => trivial)) (.tmp rfl (fun _ => trivial))) rfl ?_
  refine Chain.cons (StepOK.fieldAddr .none fd23_0 hfd23_0 (.tmp rfl (fun _ => trivial))) rfl ?_
  refine Chain.cons (StepOK.load .none ty3 (.tmp rfl (fun _ => trivial))) rfl ?_
  refine Chain.cons (StepOK.fieldAddr .none fd23_0 hfd23_0 (.tmp rfl (fun _ => trivial))) rfl ?_
  refine Chain.cons (StepOK.load .none ty3 (.tmp rfl (fun _ => trivial))) rfl ?_
  refine Chain.cons (StepOK.subW .none (.tmp rfl (fun _ => trivial)) (.tmp rfl (fun _ => trivial))) rfl ?_
  refine Chain.cons (StepOK.mulW .none (.tmp rfl (fun _ => trivial)) (.tmp rfl (fun _ => trivial))) rfl ?_
  refine Chain.cons (StepOK.eqI .none (.tmp rfl (fun _ => trivial)) (.tmp rfl (fun _ => trivial))) rfl ?_
  refine Chain.cons (StepOK.move .none (.tmp rfl (fun _ => trivial))) rfl ?_
  refine Chain.cons (StepOK.fieldAddr (.at rfl rfl) fd23_0 hfd23_0 (.tmp rfl (fun _ => trivial))) rfl ?_
  refine Chain.cons (StepOK.load (.at rfl rfl) ty3 (.tmp rfl id)) rfl ?_
  refine Chain.cons (StepOK.fieldAddr (.at rfl rfl) fd23_0 hfd23_0 (.tmp rfl (fun _ => trivial))) rfl ?_
  refine Chain.cons (StepOK.load (.at rfl rfl) ty3 (.tmp rfl id)) rfl ?_
  refine Chain.cons (StepOK.fieldAddr (.at rfl rfl) fd23_0 hfd23_0 (.tmp rfl (fun _ => trivial))) rfl ?_
  refine Chain.cons (StepOK.load (.at rfl rfl) ty3 (.tmp rfl id)) rfl ?_
  refine Chain.cons (StepOK.min2 (.at rfl rfl) (.tmp rfl id) (.tmp rfl id)) rfl ?_
  refine Chain.cons (StepOK.fieldAddr (.at rfl rfl) fd23_0 hfd23_0 (.tmp rfl (fun _ => trivial))) rfl ?_
  refine Chain.cons (StepOK.load (.at rfl rfl) ty3 (.tmp rfl id)) rfl ?_
  refine Chain.cons (StepOK.fieldAddr (.at rfl rfl) fd23_0 hfd23_0 (.tmp rfl (fun _ => trivial))) rfl ?_
  refine Chain.cons (StepOK.load (.at rfl rfl) ty3 (.tmp rfl id)) rfl ?_
  refine Chain.cons (StepOK.max2 (.at rfl rfl) (.tmp rfl id) (.tmp rfl id)) rfl ?_
  refine Chain.cons (StepOK.call (.at rfl rfl) (In_spec _ _ _) (.cons (.tmp rfl id) (.cons (.tmp rfl id) (.cons (.tmp rfl id) .nil)))) rfl ?_
  refine Chain.cons (StepOK.pickAnd .none (.tmp rfl (fun _ => trivial)) (.tmp rfl id)) rfl ?_
  refine Chain.cons (StepOK.move .none (.tmp rfl (fun _ => trivial))) rfl ?_
  refine Chain.cons (StepOK.fieldAddr (.at rfl rfl) fd23_1 hfd23_1 (.tmp rfl (fun _ => trivial))) rfl ?_
  refine Chain.cons (StepOK.load (.at rfl rfl) ty3 (.tmp rfl id)) rfl ?_
  refine Chain.cons (StepOK.fieldAddr (.at rfl rfl) fd23_1 hfd23_1 (.tmp rfl (fun _ => trivial))) rfl ?_
  refine Chain.cons (StepOK.load (.at rfl rfl) ty3 (.tmp rfl id)) rfl ?_
  refine Chain.cons (StepOK.fieldAddr (.at rfl rfl) fd23_1 hfd23_1 (.tmp rfl (fun _ => trivial))) rfl ?_
  refine Chain.cons (StepOK.load (.at rfl rfl) ty3 (.tmp rfl id)) rfl ?_
  refine Chain.cons (StepOK.min2 (.at rfl rfl) (.tmp rfl id) (.tmp rfl id)) rfl ?_
  refine Chain.cons (StepOK.fieldAddr (.at rfl rfl) fd23_1 hfd23_1 (.tmp rfl (fun _ => trivial))) rfl ?_
  refine Chain.cons (StepOK.load (.at rfl rfl) ty3 (.tmp rfl id)) rfl ?_
  refine Chain.cons (StepOK.fieldAddr (.at rfl rfl) fd23_1 hfd23_1 (.tmp rfl (fun _ => trivial))) rfl ?_
  refine Chain.cons (StepOK.load (.at rfl rfl) ty3 (.tmp rfl id)) rfl ?_
  refine Chain.cons (StepOK.max2 (.at rfl rfl) (.tmp rfl id) (.tmp rfl id)) rfl ?_
  refine Chain.cons (StepOK.call (.at rfl rfl) (In_spec _ _ _) (.cons (.tmp rfl id) (.cons (.tmp rfl id) (.cons (.tmp rfl id) .nil)))) rfl ?_
  refine Chain.cons (StepOK.pickAnd .none (.tmp rfl (fun _ => trivial)) (.tmp rfl id)) rfl ?_
  refine Chain.cons (StepOK.assign .none (.tmp rfl (fun _ => trivial))) rfl ?_
  refine Chain.nil ?_
  refine Ends.then ?_
  refine Cod.weaken (.cons (t := 6) rfl Sub.nil) SubB.nil ?_
  refine Cod.ret ?_
  refine Ends.ret1 (.inl rfl) Try.results85 (ResOK.tmp rfl trivial ?_)
  exact Imp.eq (onW_eq a b p).symm

/-- drawref1.side -/
theorem side_spec (a b p : Pt) : FSpec Try.prog 86 [rep a, rep b, rep p] (rep (sideW a b p)) := by
  refine FSpec.intro (n := 31) fnok86 Try.func86 rfl Try.ntmps86 rfl (fun w0 Mf => ?_)
  refine Cod.seq ?_
  refine Cod.region [] mixed (by kernel_rfl) ?_
  refine Chain.cons (StepOK.box .none (.tmp rfl (fun _ => trivial))) rfl ?_
  refine Chain.cons (StepOK.box .none (.tmp rfl (fun _ => trivial))) rfl ?_
  refine Chain.cons (StepOK.box .none (.tmp rfl (fun _ => trivial))) rfl ?_
  refine Chain.cons (StepOK.assign .none (.int (by decide))) rfl ?_
  refine Chain.nil ?_
  refine Ends.then ?_
  refine Cod.weaken (.cons (t := 3) rfl (.cons (t := 4) rfl (.cons (t := 5) rfl Sub.nil))) SubB.nil ?_
  refine Cod.seq ?_
  refine Cod.region [] mixed (by kernel_rfl) ?_
  refine Chain.cons (StepOK.fieldAddr .none fd23_0 hfd23_0 (.tmp rfl (fun _ => trivial))) rfl ?_
  refine Chain.cons (StepOK.load .none ty3 (.tmp rfl (fun _ => trivial))) rfl ?_
  refine Chain.cons (StepOK.fieldAddr .none fd23_0 hfd23_0 (.tmp rfl (fun _ => trivial))) rfl ?_
  refine Chain.cons (StepOK.load .none ty3 (.tmp rfl (fun _ => trivial))) rfl ?_
  refine Chain.cons (StepOK.subW .none (.tmp rfl (fun _ => trivial)) (.tmp rfl (fun _ => trivial))) rfl ?_
  refine Chain.cons (StepOK.fieldAddr .none fd23_1 hfd23_1 (.tmp rfl (fun _ => trivial))) rfl ?_
  refine Chain.cons (StepOK.load .none ty3 (.tmp rfl (fun _ => trivial))) rfl ?_
  refine Chain.cons (StepOK.fieldAddr .none fd23_1 hfd23_1 (.tmp rfl (fun _ => trivial))) rfl ?_
  refine Chain.cons (StepOK.load .none ty3 (.tmp rfl (fun _ => trivial))) rfl ?_
  refine Chain.cons (StepOK.subW .none (.tmp rfl (fun _ => trivial)) (.tmp rfl (fun _ => trivial))) rfl ?_
  refine Chain.cons (StepOK.mulW .none (.tmp rfl (fun _ => trivial)) (.tmp rfl (fun _ => trivial))) rfl ?_
  refine Chain.cons (StepOK.fieldAddr .none fd23_1 hfd23_1 (.tmp rfl (fun _ => trivial))) rfl ?_
  refine Chain.cons (StepOK.load .none ty3 (.tmp rfl (fun _ => trivial))) rfl ?_
  refine Chain.cons (StepOK.fieldAddr .none fd23_1 hfd23_1 (.tmp rfl (fun _ => trivial))) rfl ?_
  refine Chain.cons (StepOK.load .none ty3 (.tmp rfl (fun _ => trivial))) rfl ?_
  refine Chain.cons (StepOK.subW .none (.tmp rfl (fun _ => trivial)) (.tmp rfl (fun _ => trivial))) rfl ?_
  refine Chain.cons (StepOK.fieldAddr .none fd23_0 hfd23_0 (.tmp rfl (fun _ => trivial))) rfl ?_
  refine Chain.cons (StepOK.load .none ty3 (.tmp rfl (fun _ => trivial))) rfl ?_
  refine Chain.cons (StepOK.fieldAddr .none fd23_0 hfd23_0 (.tmp rfl (fun _ => trivial))) rfl ?_
  refine Chain.cons (StepOK.load .none ty3 (.tmp rfl (fun _ => trivial))) rfl ?_
  refine Chain.cons (StepOK.subW .none (.tmp rfl (fun _ => trivial)) (.tmp rfl (fun _ => trivial))) rfl ?_
  refine Chain.cons (StepOK.mulW .none (.tmp rfl (fun _ => trivial)) (.tmp rfl (fun _ => trivial))) rfl ?_
  refine Chain.cons (StepOK.subW .none (.tmp rfl (fun _ => trivial)) (.tmp rfl (fun _ => trivial))) rfl ?_
  refine Chain.cons (StepOK.call .none (Sign_spec _) (.cons (.tmp rfl (fun _ => trivial)) .nil)) rfl ?_
  refine Chain.cons (StepOK.assign .none (.tmp rfl (fun _ => trivial))) rfl ?_
  refine Chain.nil ?_
  refine Ends.then ?_
  refine Cod.weaken (.cons (t := 6) rfl Sub.nil) SubB.nil ?_
  refine Cod.ret ?_
  refine Ends.ret1 (.inl rfl) Try.results86 (ResOK.tmp rfl trivial ?_)
  exact Imp.refl

/-- geom.Meet$1 -/
theorem MeetSide_spec (a b p : Pt) : FSpec Try.prog 82 [rep a, rep b, rep p] (rep (sideW a b p)) := by
  refine FSpec.intro (n := 31) fnok82 Try.func82 rfl Try.ntmps82 rfl (fun w0 Mf => ?_)
  refine Cod.seq ?_
  refine Cod.region [] mixed (by kernel_rfl) ?_
  refine Chain.cons (StepOK.box .none (.tmp rfl (fun _ => trivial))) rfl ?_
  refine Chain.cons (StepOK.box .none (.tmp rfl (fun _ => trivial))) rfl ?_
  refine Chain.cons (StepOK.box .none (.tmp rfl (fun _ => trivial))) rfl ?_
  refine Chain.cons (StepOK.assign .none (.int (by decide))) rfl ?_
  refine Chain.nil ?_
  refine Ends.then ?_
  refine Cod.weaken (.cons (t := 3) rfl (.cons (t := 4) rfl (.cons (t := 5) rfl Sub.nil))) SubB.nil ?_
  refine Cod.seq ?_
  refine Cod.region [] mixed (by kernel_rfl) ?_
  refine Chain.cons (StepOK.fieldAddr .none fd23_0 hfd23_0 (.tmp rfl (fun _ => trivial))) rfl ?_
  refine Chain.cons (StepOK.load .none ty3 (.tmp rfl (fun _ => trivial))) rfl ?_
  refine Chain.cons (StepOK.fieldAddr .none fd23_0 hfd23_0 (.tmp rfl (fun _ => trivial))) rfl ?_
  refine Chain.cons (StepOK.load .none ty3 (.tmp rfl (fun _ => trivial))) rfl ?_
  refine Chain.cons (StepOK.subW .none (.tmp rfl (fun _ => trivial)) (.tmp rfl (fun _ => trivial))) rfl ?_
  refine Chain.cons (StepOK.fieldAddr .none fd23_1 hfd23_1 (.tmp rfl (fun _ => trivial))) rfl ?_
  refine Chain.cons (StepOK.load .none ty3 (.tmp rfl (fun _ => trivial))) rfl ?_
  refine Chain.cons (StepOK.fieldAddr .none fd23_1 hfd23_1 (.tmp rfl (fun _ => trivial))) rfl ?_
  refine Chain.cons (StepOK.load .none ty3 (.tmp rfl (fun _ => trivial))) rfl ?_
  refine Chain.cons (StepOK.subW .none (.tmp rfl (fun _ => trivial)) (.tmp rfl (fun _ => trivial))) rfl ?_
  refine Chain.cons (StepOK.mulW .none (.tmp rfl (fun _ => trivial)) (.tmp rfl (fun _ => trivial))) rfl ?_
  refine Chain.cons (StepOK.fieldAddr .none fd23_1 hfd23_1 (.tmp rfl (fun _ => trivial))) rfl ?_
  refine Chain.cons (StepOK.load .none ty3 (.tmp rfl (fun _ => trivial))) rfl ?_
  refine Chain.cons (StepOK.fieldAddr .none fd23_1 hfd23_1 (.tmp rfl (fun _ => trivial))) rfl ?_
  refine Chain.cons (StepOK.load .none ty3 (.tmp rfl (fun _ => trivial))) rfl ?_
  refine Chain.cons (StepOK.subW .none (.tmp rfl (fun _ => trivial)) (.tmp rfl (fun _ => trivial))) rfl ?_
  refine Chain.cons (StepOK.fieldAddr .none fd23_0 hfd23_0 (.tmp rfl (fun _ => trivial))) rfl ?_
  refine Chain.cons (StepOK.load .none ty3 (.tmp rfl (fun _ => trivial))) rfl ?_
  refine Chain.cons (StepOK.fieldAddr .none fd23_0 hfd23_0 (.tmp rfl (fun _ => trivial))) rfl ?_
  refine Chain.cons (StepOK.load .none ty3 (.tmp rfl (fun _ => trivial))) rfl ?_
  refine Chain.cons (StepOK.subW .none (.tmp rfl (fun _ => trivial)) (.tmp rfl (fun _ => trivial))) rfl ?_
  refine Chain.cons (StepOK.mulW .none (.tmp rfl (fun _ => trivial)) (.tmp rfl (fun _ => trivial))) rfl ?_
  refine Chain.cons (StepOK.subW .none (.tmp rfl (fun _ => trivial)) (.tmp rfl (fun _ => trivial))) rfl ?_
  refine Chain.cons (StepOK.call .none (sign_spec _) (.cons (.tmp rfl (fun _ => trivial)) .nil)) rfl ?_
  refine Chain.cons (StepOK.assign .none (.tmp rfl (fun _ => trivial))) rfl ?_
  refine Chain.nil ?_
  refine Ends.then ?_
  refine Cod.weaken (.cons (t := 6) rfl Sub.nil) SubB.nil ?_
  refine Cod.ret ?_
  refine Ends.ret1 (.inl rfl) Try.results82 (ResOK.tmp rfl trivial ?_)
  exact Imp.refl

/-- drawref1.MeetOf -/
theorem MeetOf_spec (a b c d : Pt) : FSpec Try.prog 19 [rep a, rep b, rep c, rep d] (rep (meetW a b c d)) := by
  refine FSpec.intro (n := 53) fnok19 Try.func19 rfl Try.ntmps19 rfl (fun w0 Mf => ?_)
  refine Cod.seq ?_
  refine Cod.region [] mixed (by kernel_rfl) ?_
  refine Chain.cons (StepOK.box .none (.tmp rfl (fun _ => trivial))) rfl ?_
  refine Chain.cons (StepOK.box .none (.tmp rfl (fun _ => trivial))) rfl ?_
  refine Chain.cons (StepOK.box .none (.tmp rfl (fun _ => trivial))) rfl ?_
  refine Chain.cons (StepOK.box .none (.tmp rfl (fun _ => trivial))) rfl ?_
  refine Chain.cons (StepOK.assign .none .bool) rfl ?_
  refine Chain.nil ?_
  refine Ends.then ?_
  refine Cod.weaken (.cons (t := 4) rfl (.cons (t := 5) rfl (.cons (t := 6) rfl (.cons (t := 7) rfl Sub.nil)))) SubB.nil ?_
  refine Cod.seq ?_
  refine Cod.seq ?_
  refine Cod.region [] mixed (by kernel_rfl) ?_
  refine Chain.cons (StepOK.load .none ty23 (.tmp rfl (fun _ => trivial))) rfl ?_
  refine Chain.cons (StepOK.load .none ty23 (.tmp rfl (fun _ => trivial))) rfl ?_
  refine Chain.cons (StepOK.load .none ty23 (.tmp rfl (fun _ => trivial))) rfl ?_
  refine Chain.cons (StepOK.call .none (Ron_spec _ _ _) (.cons (.tmp rfl (fun _ => trivial)) (.cons (.tmp rfl (fun _ => trivial)) (.cons (.tmp rfl (fun _ => trivial)) .nil)))) rfl ?_
  refine Chain.cons (StepOK.move .none (.tmp rfl (fun _ => trivial))) rfl ?_
  refine Chain.cons (StepOK.load (.at rfl rfl) ty23 (.tmp rfl (fun _ => trivial))) rfl ?_
  refine Chain.cons (StepOK.load (.at rfl rfl) ty23 (.tmp rfl (fun _ => trivial))) rfl ?_
  refine Chain.cons (StepOK.load (.at rfl rfl) ty23 (.tmp rfl (fun _ => trivial))) rfl ?_
  refine Chain.cons (StepOK.call (.at rfl rfl) (Ron_spec _ _ _) (.cons (.tmp rfl id) (.cons (.tmp rfl id) (.cons (.tmp rfl id) .nil)))) rfl ?_
  refine Chain.cons (StepOK.pickOr .none (.tmp rfl (fun _ => trivial)) (.tmp rfl id)) rfl ?_
  refine Chain.cons (StepOK.move .none (.tmp rfl (fun _ => trivial))) rfl ?_
  refine Chain.cons (StepOK.load (.at rfl rfl) ty23 (.tmp rfl (fun _ => trivial))) rfl ?_
  refine Chain.cons (StepOK.load (.at rfl rfl) ty23 (.tmp rfl (fun _ => trivial))) rfl ?_
  refine Chain.cons (StepOK.load (.at rfl rfl) ty23 (.tmp rfl (fun _ => trivial))) rfl ?_
  refine Chain.cons (StepOK.call (.at rfl rfl) (Ron_spec _ _ _) (.cons (.tmp rfl id) (.cons (.tmp rfl id) (.cons (.tmp rfl id) .nil)))) rfl ?_
  refine Chain.cons (StepOK.pickOr .none (.tmp rfl (fun _ => trivial)) (.tmp rfl id)) rfl ?_
  refine Chain.cons (StepOK.move .none (.tmp rfl (fun _ => trivial))) rfl ?_
  refine Chain.cons (StepOK.load (.at rfl rfl) ty23 (.tmp rfl (fun _ => trivial))) rfl ?_
  refine Chain.cons (StepOK.load (.at rfl rfl) ty23 (.tmp rfl (fun _ => trivial))) rfl ?_
  refine Chain.cons (StepOK.load (.at rfl rfl) ty23 (.tmp rfl (fun _ => trivial))) rfl ?_
  refine Chain.cons (StepOK.call (.at rfl rfl) (Ron_spec _ _ _) (.cons (.tmp rfl id) (.cons (.tmp rfl id) (.cons (.tmp rfl id) .nil)))) rfl ?_
  refine Chain.cons (StepOK.pickOr .none (.tmp rfl (fun _ => trivial)) (.tmp rfl id)) rfl ?_
  refine Chain.nil ?_
  refine Ends.then ?_
  refine Cod.weaken (.cons (t := 4) rfl (.cons (t := 5) rfl (.cons (t := 6) rfl (.cons (t := 7) rfl (.cons (t := 30) rfl Sub.nil))))) SubB.nil ?_
  refine Cod.cond (t := 30) rfl trivial (fun hb1 => ?_) (fun hb1 => ?_)
  · try simp only [decide_eq_true_eq, decide_eq_false_iff_not, Bool.and_eq_true, Bool.or_eq_true, Bool.not_eq_true', Bool.not_eq_false', Bool.and_eq_false_iff, Bool.or_eq_false_iff, Int.not_lt, Int.not_le, Bool.true_eq_false, Bool.false_eq_true, true_and, and_true] at hb1
    refine Cod.seq ?_
    refine Cod.region [] mixed (by kernel_rfl) ?_
    refine Chain.cons (StepOK.assign .none .bool) rfl ?_
    refine Chain.nil ?_
    refine Ends.then ?_
    refine Cod.weaken (.cons (t := 8) rfl Sub.nil) SubB.nil ?_
    refine Cod.ret ?_
    refine Ends.thenRet ?_
    refine Ends.ret1 (.inl rfl) Try.results19 (ResOK.tmp rfl trivial ?_)
    refine Imp.eq ?_; simp_all [meetW]
  · try simp only [decide_eq_true_eq, decide_eq_false_iff_not, Bool.and_eq_true, Bool.or_eq_true, Bool.not_eq_true', Bool.not_eq_false', Bool.and_eq_false_iff, Bool.or_eq_false_iff, Int.not_lt, Int.not_le, Bool.true_eq_false, Bool.false_eq_true, true_and, and_true] at hb1
    refine Cod.skip ?_
    refine Ends.then ?_
    refine Cod.weaken (.cons (t := 4) rfl (.cons (t := 5) rfl (.cons (t := 6) rfl (.cons (t := 7) rfl Sub.nil)))) SubB.nil ?_
    refine Cod.seq ?_
    refine Cod.region [] mixed (by kernel_rfl) ?_
    refine Chain.cons (StepOK.load .none ty23 (.tmp rfl (fun _ => trivial))) rfl ?_
    refine Chain.cons (StepOK.load .none ty23 (.tmp rfl (fun _ => trivial))) rfl ?_
    refine Chain.cons (StepOK.load .none ty23 (.tmp rfl (fun _ => trivial))) rfl ?_
    refine Chain.cons (StepOK.call .none (side_spec _ _ _) (.cons (.tmp rfl (fun _ => trivial)) (.cons (.tmp rfl (fun _ => trivial)) (.cons (.tmp rfl (fun _ => trivial)) .nil)))) rfl ?_
    refine Chain.cons (StepOK.load .none ty23 (.tmp rfl (fun _ => trivial))) rfl ?_
    refine Chain.cons (StepOK.load .none ty23 (.tmp rfl (fun _ => trivial))) rfl ?_
    refine Chain.cons (StepOK.load .none ty23 (.tmp rfl (fun _ => trivial))) rfl ?_
    refine Chain.cons (StepOK.call .none (side_spec _ _ _) (.cons (.tmp rfl (fun _ => trivial)) (.cons (.tmp rfl (fun _ => trivial)) (.cons (.tmp rfl (fun _ => trivial)) .nil)))) rfl ?_
    refine Chain.cons (StepOK.mulW .none (.tmp rfl (fun _ => trivial)) (.tmp rfl (fun _ => trivial))) rfl ?_
    refine Chain.cons (StepOK.lt .none (.tmp rfl (fun _ => trivial)) (.int (by decide))) rfl ?_
    refine Chain.cons (StepOK.move .none (.tmp rfl (fun _ => trivial))) rfl ?_
    refine Chain.cons (StepOK.load (.at rfl rfl) ty23 (.tmp rfl (fun _ => trivial))) rfl ?_
    refine Chain.cons (StepOK.load (.at rfl rfl) ty23 (.tmp rfl (fun _ => trivial))) rfl ?_
    refine Chain.cons (StepOK.load (.at rfl rfl) ty23 (.tmp rfl (fun _ => trivial))) rfl ?_
    refine Chain.cons (StepOK.call (.at rfl rfl) (side_spec _ _ _) (.cons (.tmp rfl id) (.cons (.tmp rfl id) (.cons (.tmp rfl id) .nil)))) rfl ?_
    refine Chain.cons (StepOK.load (.at rfl rfl) ty23 (.tmp rfl (fun _ => trivial))) rfl ?_
    refine Chain.cons (StepOK.load (.at rfl rfl) ty23 (.tmp rfl (fun _ => trivial))) rfl ?_
    refine Chain.cons (StepOK.load (.at rfl rfl) ty23 (.tmp rfl (fun _ => trivial))) rfl ?_
    refine Chain.cons (StepOK.call (.at rfl rfl) (side_spec _ _ _) (.cons (.tmp rfl id) (.cons (.tmp rfl id) (.cons (.tmp rfl id) .nil)))) rfl ?_
    refine Chain.cons (StepOK.mulW (.at rfl rfl) (.tmp rfl id) (.tmp rfl id)) rfl ?_
    refine Chain.cons (StepOK.lt (.at rfl rfl) (.tmp rfl id) (.int (by decide))) rfl ?_
    refine Chain.cons (StepOK.pickAnd .none (.tmp rfl (fun _ => trivial)) (.tmp rfl id)) rfl ?_
    refine Chain.cons (StepOK.assign .none (.tmp rfl (fun _ => trivial))) rfl ?_
    refine Chain.nil ?_
    refine Ends.then ?_
    refine Cod.weaken (.cons (t := 8) rfl Sub.nil) SubB.nil ?_
    refine Cod.ret ?_
    refine Ends.ret1 (.inl rfl) Try.results19 (ResOK.tmp rfl trivial ?_)
    refine Imp.eq ?_; simp_all [meetW]

/-- geom.Bend -/
theorem Bend_spec (a b c : Pt) : FSpec Try.prog 11 [rep a, rep b, rep c] (tup [rep (if ptsErr [a, b, c] = 0 then bendW a b c else 0), rep (ptsErr [a, b, c])]) := by
  refine FSpec.intro (n := 21) fnok11 Try.func11 rfl Try.ntmps11 rfl (fun w0 Mf => ?_)
  refine Cod.seq ?_
  refine Cod.region [] mixed (by kernel_rfl) ?_
  refine Chain.cons (StepOK.box .none (.tmp rfl (fun _ => trivial))) rfl ?_
  refine Chain.cons (StepOK.box .none (.tmp rfl (fun _ => trivial))) rfl ?_
  refine Chain.cons (StepOK.box .none (.tmp rfl (fun _ => trivial))) rfl ?_
  refine Chain.cons (StepOK.assign .none (.int (by decide))) rfl ?_
  refine Chain.cons (StepOK.assign .none (.int (by decide))) rfl ?_
  refine Chain.nil ?_
  refine Ends.then ?_
  refine Cod.weaken (.cons (t := 3) rfl (.cons (t := 4) rfl (.cons (t := 5) rfl Sub.nil))) SubB.nil ?_
  refine Cod.seq ?_
  refine Cod.seq ?_
  refine Cod.region [] mixed (by kernel_rfl) ?_
  refine Chain.cons (StepOK.load .none ty23 (.tmp rfl (fun _ => trivial))) rfl ?_
  refine Chain.cons (StepOK.load .none ty23 (.tmp rfl (fun _ => trivial))) rfl ?_
  refine Chain.cons (StepOK.load .none ty23 (.tmp rfl (fun _ => trivial))) rfl ?_
  refine Chain.cons (StepOK.buildSlice (xs := [_, _, _]) .none sl66 ty23 hz23 (.cons (.tmp rfl (fun _ => trivial)) (.cons (.tmp rfl (fun _ => trivial)) (.cons (.tmp rfl (fun _ => trivial)) .nil))) rfl (by decide)) rfl ?_
  refine Chain.cons (StepOK.call .none (points_spec _) (.cons (.tmp rfl (fun _ => trivial)) .nil)) rfl ?_
  refine Chain.cons (StepOK.assign .none (.tmp rfl (fun _ => trivial))) rfl ?_
  refine Chain.nil ?_
  refine Ends.then ?_
  refine Cod.weaken (.cons (t := 3) rfl (.cons (t := 4) rfl (.cons (t := 5) rfl (.cons (t := 8) rfl Sub.nil)))) SubB.nil ?_
  refine Cod.seq ?_
  refine Cod.region [] mixed (by kernel_rfl) ?_
  refine Chain.cons (StepOK.move .none (.tmp rfl (fun _ => trivial))) rfl ?_
  refine Chain.cons (StepOK.neI .none (.tmp rfl (fun _ => trivial)) (.int (by decide))) rfl ?_
  refine Chain.nil ?_
  refine Ends.then ?_
  refine Cod.weaken (.cons (t := 3) rfl (.cons (t := 4) rfl (.cons (t := 5) rfl (.cons (t := 8) rfl (.cons (t := 15) rfl Sub.nil))))) SubB.nil ?_
  refine Cod.cond (t := 15) rfl trivial (fun hb1 => ?_) (fun hb1 => ?_)
  · try simp only [decide_eq_true_eq, decide_eq_false_iff_not, Bool.and_eq_true, Bool.or_eq_true, Bool.not_eq_true', Bool.not_eq_false', Bool.and_eq_false_iff, Bool.or_eq_false_iff, Int.not_lt, Int.not_le, Bool.true_eq_false, Bool.false_eq_true, true_and, and_true] at hb1
    refine Cod.seq ?_
    refine Cod.region [] mixed (by kernel_rfl) ?_
    refine Chain.cons (StepOK.move .none (.tmp rfl (fun _ => trivial))) rfl ?_
    refine Chain.cons (StepOK.assign .none (.int (by decide))) rfl ?_
    refine Chain.cons (StepOK.assign .none (.tmp rfl (fun _ => trivial))) rfl ?_
    refine Chain.nil ?_
    refine Ends.then ?_
    refine Cod.weaken (.cons (t := 6) rfl (.cons (t := 7) rfl Sub.nil)) SubB.nil ?_
    refine Cod.ret ?_
    refine Ends.thenRet ?_
    refine Ends.ret2 (.inl rfl) Try.results11 (ResOK.tmp rfl trivial ?_) (ResOK.tmp rfl trivial ?_)
    all_goals (refine Imp.eq ?_; simp_all)
  · try simp only [decide_eq_true_eq, decide_eq_false_iff_not, Bool.and_eq_true, Bool.or_eq_true, Bool.not_eq_true', Bool.not_eq_false', Bool.and_eq_false_iff, Bool.or_eq_false_iff, Int.not_lt, Int.not_le, Bool.true_eq_false, Bool.false_eq_true, true_and, and_true] at hb1
    refine Cod.skip ?_
    refine Ends.then ?_
    refine Cod.weaken (.cons (t := 3) rfl (.cons (t := 4) rfl (.cons (t := 5) rfl Sub.nil))) SubB.nil ?_
    refine Cod.seq ?_
    refine Cod.region [] mixed (by kernel_rfl) ?_
    refine Chain.cons (StepOK.load .none ty23 (.tmp rfl (fun _ => trivial))) rfl ?_
    refine Chain.cons (StepOK.load .none ty23 (.tmp rfl (fun _ => trivial))) rfl ?_
    refine Chain.cons (StepOK.load .none ty23 (.tmp rfl (fun _ => trivial))) rfl ?_
    refine Chain.cons (StepOK.call .none (bend_spec _ _ _) (.cons (.tmp rfl (fun _ => trivial)) (.cons (.tmp rfl (fun _ => trivial)) (.cons (.tmp rfl (fun _ => trivial)) .nil)))) rfl ?_
    refine Chain.cons (StepOK.assign .none (.tmp rfl (fun _ => trivial))) rfl ?_
    refine Chain.cons (StepOK.assign .none (.int (by decide))) rfl ?_
    refine Chain.nil ?_
    refine Ends.then ?_
    refine Cod.weaken (.cons (t := 6) rfl (.cons (t := 7) rfl Sub.nil)) SubB.nil ?_
    refine Cod.ret ?_
    refine Ends.ret2 (.inl rfl) Try.results11 (ResOK.tmp rfl trivial ?_) (ResOK.tmp rfl trivial ?_)
    all_goals (refine Imp.eq ?_; simp_all)

/-- geom.Meet -/
theorem Meet_spec (a b c d : Pt) : FSpec Try.prog 12 [rep a, rep b, rep c, rep d] (tup [rep (if ptsErr [a, b, c, d] = 0 then meetW a b c d else false), rep (ptsErr [a, b, c, d])]) := by
  refine FSpec.intro (n := 69) fnok12 Try.func12 rfl Try.ntmps12 rfl (fun w0 Mf => ?_)
  refine Cod.seq ?_
  refine Cod.region [] mixed (by kernel_rfl) ?_
  refine Chain.cons (StepOK.box .none (.tmp rfl (fun _ => trivial))) rfl ?_
  refine Chain.cons (StepOK.box .none (.tmp rfl (fun _ => trivial))) rfl ?_
  refine Chain.cons (StepOK.box .none (.tmp rfl (fun _ => trivial))) rfl ?_
  refine Chain.cons (StepOK.box .none (.tmp rfl (fun _ => trivial))) rfl ?_
  refine Chain.cons (StepOK.assign .none .bool) rfl ?_
  refine Chain.cons (StepOK.assign .none (.int (by decide))) rfl ?_
  refine Chain.nil ?_
  refine Ends.then ?_
  refine Cod.weaken (.cons (t := 4) rfl (.cons (t := 5) rfl (.cons (t := 6) rfl (.cons (t := 7) rfl Sub.nil)))) SubB.nil ?_
  refine Cod.seq ?_
  refine Cod.seq ?_
  refine Cod.region [] mixed (by kernel_rfl) ?_
  refine Chain.cons (StepOK.load .none ty23 (.tmp rfl (fun _ => trivial))) rfl ?_
  refine Chain.cons (StepOK.load .none ty23 (.tmp rfl (fun _ => trivial))) rfl ?_
  refine Chain.cons (StepOK.load .none ty23 (.tmp rfl (fun _ => trivial))) rfl ?_
  refine Chain.cons (StepOK.load .none ty23 (.tmp rfl (fun _ => trivial))) rfl ?_
  refine Chain.cons (StepOK.buildSlice (xs := [_, _, _, _]) .none sl66 ty23 hz23 (.cons (.tmp rfl (fun _ => trivial)) (.cons (.tmp rfl (fun _ => trivial)) (.cons (.tmp rfl (fun _ => trivial)) (.cons (.tmp rfl (fun _ => trivial)) .nil)))) rfl (by decide)) rfl ?_
  refine Chain.cons (StepOK.call .none (points_spec _) (.cons (.tmp rfl (fun _ => trivial)) .nil)) rfl ?_
  refine Chain.cons (StepOK.assign .none (.tmp rfl (fun _ => trivial))) rfl ?_
  refine Chain.nil ?_
  refine Ends.then ?_
  refine Cod.weaken (.cons (t := 4) rfl (.cons (t := 5) rfl (.cons (t := 6) rfl (.cons (t := 7) rfl (.cons (t := 10) rfl Sub.nil))))) SubB.nil ?_
  refine Cod.seq ?_
  refine Cod.region [] mixed (by kernel_rfl) ?_
  refine Chain.cons (StepOK.move .none (.tmp rfl (fun _ => trivial))) rfl ?_
  refine Chain.cons (StepOK.neI .none (.tmp rfl (fun _ => trivial)) (.int (by decide))) rfl ?_
  refine Chain.nil ?_
  refine Ends.then ?_
  refine Cod.weaken (.cons (t := 4) rfl (.cons (t := 5) rfl (.cons (t := 6) rfl (.cons (t := 7) rfl (.cons (t := 10) rfl (.cons (t := 19) rfl Sub.nil)))))) SubB.nil ?_
  refine Cod.cond (t := 19) rfl trivial (fun hb1 => ?_) (fun hb1 => ?_)
  · try simp only [decide_eq_true_eq, decide_eq_false_iff_not, Bool.and_eq_true, Bool.or_eq_true, Bool.not_eq_true', Bool.not_eq_false', Bool.and_eq_false_iff, Bool.or_eq_false_iff, Int.not_lt, Int.not_le, Bool.true_eq_false, Bool.false_eq_true, true_and, and_true] at hb1
    refine Cod.seq ?_
    refine Cod.region [] mixed (by kernel_rfl) ?_
    refine Chain.cons (StepOK.move .none (.tmp rfl (fun _ => trivial))) rfl ?_
    refine Chain.cons (StepOK.assign .none .bool) rfl ?_
    refine Chain.cons (StepOK.assign .none (.tmp rfl (fun _ => trivial))) rfl ?_
    refine Chain.nil ?_
    refine Ends.then ?_
    refine Cod.weaken (.cons (t := 8) rfl (.cons (t := 9) rfl Sub.nil)) SubB.nil ?_
    refine Cod.ret ?_
    refine Ends.thenRet ?_
    refine Ends.ret2 (.inl rfl) Try.results12 (ResOK.tmp rfl trivial ?_) (ResOK.tmp rfl trivial ?_)
    all_goals (refine Imp.eq ?_; simp_all [meetW])
  · try simp only [decide_eq_true_eq, decide_eq_false_iff_not, Bool.and_eq_true, Bool.or_eq_true, Bool.not_eq_true', Bool.not_eq_false', Bool.and_eq_false_iff, Bool.or_eq_false_iff, Int.not_lt, Int.not_le, Bool.true_eq_false, Bool.false_eq_true, true_and, and_true] at hb1
    refine Cod.skip ?_
    refine Ends.then ?_
    refine Cod.weaken (.cons (t := 4) rfl (.cons (t := 5) rfl (.cons (t := 6) rfl (.cons (t := 7) rfl Sub.nil)))) SubB.nil ?_
    refine Cod.seq ?_
    refine Cod.seq ?_
    refine Cod.region [] mixed (by kernel_rfl) ?_
    refine Chain.cons (StepOK.load .none ty23 (.tmp rfl (fun _ => trivial))) rfl ?_
    refine Chain.cons (StepOK.load .none ty23 (.tmp rfl (fun _ => trivial))) rfl ?_
    refine Chain.cons (StepOK.load .none ty23 (.tmp rfl (fun _ => trivial))) rfl ?_
    refine Chain.cons (StepOK.call .none (on_spec _ _ _) (.cons (.tmp rfl (fun _ => trivial)) (.cons (.tmp rfl (fun _ => trivial)) (.cons (.tmp rfl (fun _ => trivial)) .nil)))) rfl ?_
    refine Chain.cons (StepOK.move .none (.tmp rfl (fun _ => trivial))) rfl ?_
    refine Chain.cons (StepOK.load (.at rfl rfl) ty23 (.tmp rfl (fun _ => trivial))) rfl ?_
    refine Chain.cons (StepOK.load (.at rfl rfl) ty23 (.tmp rfl (fun _ => trivial))) rfl ?_
    refine Chain.cons (StepOK.load (.at rfl rfl) ty23 (.tmp rfl (fun _ => trivial))) rfl ?_
    refine Chain.cons (StepOK.call (.at rfl rfl) (on_spec _ _ _) (.cons (.tmp rfl id) (.cons (.tmp rfl id) (.cons (.tmp rfl id) .nil)))) rfl ?_
    refine Chain.cons (StepOK.pickOr .none (.tmp rfl (fun _ => trivial)) (.tmp rfl id)) rfl ?_
    refine Chain.cons (StepOK.move .none (.tmp rfl (fun _ => trivial))) rfl ?_
    refine Chain.cons (StepOK.load (.at rfl rfl) ty23 (.tmp rfl (fun _ => trivial))) rfl ?_
    refine Chain.cons (StepOK.load (.at rfl rfl) ty23 (.tmp rfl (fun _ => trivial))) rfl ?_
    refine Chain.cons (StepOK.load (.at rfl rfl) ty23 (.tmp rfl (fun _ => trivial))) rfl ?_
    refine Chain.cons (StepOK.call (.at rfl rfl) (on_spec _ _ _) (.cons (.tmp rfl id) (.cons (.tmp rfl id) (.cons (.tmp rfl id) .nil)))) rfl ?_
    refine Chain.cons (StepOK.pickOr .none (.tmp rfl (fun _ => trivial)) (.tmp rfl id)) rfl ?_
    refine Chain.cons (StepOK.move .none (.tmp rfl (fun _ => trivial))) rfl ?_
    refine Chain.cons (StepOK.load (.at rfl rfl) ty23 (.tmp rfl (fun _ => trivial))) rfl ?_
    refine Chain.cons (StepOK.load (.at rfl rfl) ty23 (.tmp rfl (fun _ => trivial))) rfl ?_
    refine Chain.cons (StepOK.load (.at rfl rfl) ty23 (.tmp rfl (fun _ => trivial))) rfl ?_
    refine Chain.cons (StepOK.call (.at rfl rfl) (on_spec _ _ _) (.cons (.tmp rfl id) (.cons (.tmp rfl id) (.cons (.tmp rfl id) .nil)))) rfl ?_
    refine Chain.cons (StepOK.pickOr .none (.tmp rfl (fun _ => trivial)) (.tmp rfl id)) rfl ?_
    refine Chain.nil ?_
    refine Ends.then ?_
    refine Cod.weaken (.cons (t := 4) rfl (.cons (t := 5) rfl (.cons (t := 6) rfl (.cons (t := 7) rfl (.cons (t := 42) rfl Sub.nil))))) SubB.nil ?_
    refine Cod.cond (t := 42) rfl trivial (fun hb2 => ?_) (fun hb2 => ?_)
    · try simp only [decide_eq_true_eq, decide_eq_false_iff_not, Bool.and_eq_true, Bool.or_eq_true, Bool.not_eq_true', Bool.not_eq_false', Bool.and_eq_false_iff, Bool.or_eq_false_iff, Int.not_lt, Int.not_le, Bool.true_eq_false, Bool.false_eq_true, true_and, and_true] at hb2
      refine Cod.seq ?_
      refine Cod.region [] mixed (by kernel_rfl) ?_
      refine Chain.cons (StepOK.assign .none .bool) rfl ?_
      refine Chain.cons (StepOK.assign .none (.int (by decide))) rfl ?_
      refine Chain.nil ?_
      refine Ends.then ?_
      refine Cod.weaken (.cons (t := 8) rfl (.cons (t := 9) rfl Sub.nil)) SubB.nil ?_
      refine Cod.ret ?_
      refine Ends.thenRet ?_
      refine Ends.ret2 (.inl rfl) Try.results12 (ResOK.tmp rfl trivial ?_) (ResOK.tmp rfl trivial ?_)
      all_goals (refine Imp.eq ?_; simp_all [meetW])
    · try simp only [decide_eq_true_eq, decide_eq_false_iff_not, Bool.and_eq_true, Bool.or_eq_true, Bool.not_eq_true', Bool.not_eq_false', Bool.and_eq_false_iff, Bool.or_eq_false_iff, Int.not_lt, Int.not_le, Bool.true_eq_false, Bool.false_eq_true, true_and, and_true] at hb2
      refine Cod.skip ?_
      refine Ends.then ?_
      refine Cod.weaken (.cons (t := 4) rfl (.cons (t := 5) rfl (.cons (t := 6) rfl (.cons (t := 7) rfl Sub.nil)))) SubB.nil ?_
      refine Cod.seq ?_
      refine Cod.region [] mixed (by kernel_rfl) ?_
      refine Chain.cons (StepOK.assign .none (.func (ι := Pt × Pt × Pt) (pre := fun _ => True) (Ss := fun i => [rep i.1, rep i.2.1, rep i.2.2]) (S := fun i => rep (sideW i.1 i.2.1 i.2.2)) fnok82 (fun i _ => MeetSide_spec i.1 i.2.1 i.2.2))) rfl ?_
      refine Chain.nil ?_
      refine Ends.then ?_
      refine Cod.weaken (.cons (t := 4) rfl (.cons (t := 5) rfl (.cons (t := 6) rfl (.cons (t := 7) rfl (.cons (t := 11) rfl Sub.nil))))) SubB.nil ?_
      refine Cod.seq ?_
      refine Cod.region [] mixed (by kernel_rfl) ?_
      refine Chain.cons (StepOK.move .none (.tmp rfl (fun _ => trivial))) rfl ?_
      refine Chain.cons (StepOK.load .none ty23 (.tmp rfl (fun _ => trivial))) rfl ?_
      refine Chain.cons (StepOK.load .none ty23 (.tmp rfl (fun _ => trivial))) rfl ?_
      refine Chain.cons (StepOK.load .none ty23 (.tmp rfl (fun _ => trivial))) rfl ?_
      refine Chain.cons (StepOK.callV (a, b, c) .none (.tmp rfl (fun _ => trivial)) (fun _ => trivial) (.cons (.tmp rfl (fun _ => trivial)) (.cons (.tmp rfl (fun _ => trivial)) (.cons (.tmp rfl (fun _ => trivial)) .nil)))) rfl ?_
      refine Chain.cons (StepOK.move .none (.tmp rfl (fun _ => trivial))) rfl ?_
      refine Chain.cons (StepOK.load .none ty23 (.tmp rfl (fun _ => trivial))) rfl ?_
      refine Chain.cons (StepOK.load .none ty23 (.tmp rfl (fun _ => trivial))) rfl ?_
      refine Chain.cons (StepOK.load .none ty23 (.tmp rfl (fun _ => trivial))) rfl ?_
      refine Chain.cons (StepOK.callV (a, b, d) .none (.tmp rfl (fun _ => trivial)) (fun _ => trivial) (.cons (.tmp rfl (fun _ => trivial)) (.cons (.tmp rfl (fun _ => trivial)) (.cons (.tmp rfl (fun _ => trivial)) .nil)))) rfl ?_
      refine Chain.cons (StepOK.mulW .none (.tmp rfl (fun _ => trivial)) (.tmp rfl (fun _ => trivial))) rfl ?_
      refine Chain.cons (StepOK.lt .none (.tmp rfl (fun _ => trivial)) (.int (by decide))) rfl ?_
      refine Chain.cons (StepOK.move .none (.tmp rfl (fun _ => trivial))) rfl ?_
      refine Chain.cons (StepOK.move (.at rfl rfl) (.tmp rfl (fun _ => trivial))) rfl ?_
      refine Chain.cons (StepOK.load (.at rfl rfl) ty23 (.tmp rfl (fun _ => trivial))) rfl ?_
      refine Chain.cons (StepOK.load (.at rfl rfl) ty23 (.tmp rfl (fun _ => trivial))) rfl ?_
      refine Chain.cons (StepOK.load (.at rfl rfl) ty23 (.tmp rfl (fun _ => trivial))) rfl ?_
      refine Chain.cons (StepOK.callV (c, d, a) (.at rfl rfl) (.tmp rfl id) (fun _ => trivial) (.cons (.tmp rfl id) (.cons (.tmp rfl id) (.cons (.tmp rfl id) .nil)))) rfl ?_
      refine Chain.cons (StepOK.move (.at rfl rfl) (.tmp rfl (fun _ => trivial))) rfl ?_
      refine Chain.cons (StepOK.load (.at rfl rfl) ty23 (.tmp rfl (fun _ => trivial))) rfl ?_
      refine Chain.cons (StepOK.load (.at rfl rfl) ty23 (.tmp rfl (fun _ => trivial))) rfl ?_
      refine Chain.cons (StepOK.load (.at rfl rfl) ty23 (.tmp rfl (fun _ => trivial))) rfl ?_
      refine Chain.cons (StepOK.callV (c, d, b) (.at rfl rfl) (.tmp rfl id) (fun _ => trivial) (.cons (.tmp rfl id) (.cons (.tmp rfl id) (.cons (.tmp rfl id) .nil)))) rfl ?_
      refine Chain.cons (StepOK.mulW (.at rfl rfl) (.tmp rfl id) (.tmp rfl id)) rfl ?_
      refine Chain.cons (StepOK.lt (.at rfl rfl) (.tmp rfl id) (.int (by decide))) rfl ?_
      refine Chain.cons (StepOK.pickAnd .none (.tmp rfl (fun _ => trivial)) (.tmp rfl id)) rfl ?_
      refine Chain.cons (StepOK.assign .none (.tmp rfl (fun _ => trivial))) rfl ?_
      refine Chain.cons (StepOK.assign .none (.int (by decide))) rfl ?_
      refine Chain.nil ?_
      refine Ends.then ?_
      refine Cod.weaken (.cons (t := 8) rfl (.cons (t := 9) rfl Sub.nil)) SubB.nil ?_
      refine Cod.ret ?_
      refine Ends.ret2 (.inl rfl) Try.results12 (ResOK.tmp rfl trivial ?_) (ResOK.tmp rfl trivial ?_)
      all_goals (refine Imp.eq ?_; simp_all [meetW])

/-- drawlaw1.geoms -/
theorem geoms_spec  : FSpec Try.prog 13 [] (rep true) := by
  refine FSpec.intro (n := 16) fnok13 Try.func13 rfl Try.ntmps13 rfl (fun w0 Mf => ?_)
  refine Cod.seq ?_
  refine Cod.region [] mixed (by kernel_rfl) ?_
  refine Chain.cons (StepOK.assign .none .bool) rfl ?_
  refine Chain.nil ?_
  refine Ends.then ?_
  refine Cod.weaken Sub.nil SubB.nil ?_
  refine Cod.seq ?_
  refine Cod.region [] mixed (by kernel_rfl) ?_
  refine Chain.cons (StepOK.build (y := (⟨0, 0⟩ : Pt)) .none bu23 .nil rfl (fun M w vs h => by match vs, h with | [], _ => exact ⟨_, rfl, rep_pt_cells (by decide) (by decide)⟩)) rfl ?_
  refine Chain.cons (StepOK.build (y := (⟨_, 0⟩ : Pt)) .none bu23 (.cons (.int (by decide)) .nil) rfl (fun M w vs h => by obtain ⟨rfl, hi⟩ := All2.ints [_] vs h; exact ⟨_, rfl, rep_pt_cells (p := ⟨_, 0⟩) (hi _ (.head _)) (by decide)⟩)) rfl ?_
  refine Chain.cons (StepOK.build (y := (⟨_, _⟩ : Pt)) .none bu23 (.cons (.int (by decide)) (.cons (.int (by decide)) .nil)) rfl (fun M w vs h => by obtain ⟨rfl, hi⟩ := All2.ints [_, _] vs h; exact ⟨_, rfl, rep_pt_cells (p := ⟨_, _⟩) (hi _ (.head _)) (hi _ (.tail _ (.head _)))⟩)) rfl ?_
  refine Chain.cons (StepOK.call .none (Bend_spec _ _ _) (.cons (.tmp rfl (fun _ => trivial)) (.cons (.tmp rfl (fun _ => trivial)) (.cons (.tmp rfl (fun _ => trivial)) .nil)))) rfl ?_
  refine Chain.cons (StepOK.move .none (.tmp rfl (fun _ => trivial))) rfl ?_
  refine Chain.cons (StepOK.extract .none (.tmp rfl (fun _ => trivial)) rfl) rfl ?_
  refine Chain.cons (StepOK.extract .none (.tmp rfl (fun _ => trivial)) rfl) rfl ?_
  refine Chain.cons (StepOK.assign .none (.tmp rfl (fun _ => trivial))) rfl ?_
  refine Chain.cons (StepOK.assign .none (.tmp rfl (fun _ => trivial))) rfl ?_
  refine Chain.nil ?_
  refine Ends.then ?_
  refine Cod.weaken (.cons (t := 1) rfl (.cons (t := 2) rfl Sub.nil)) SubB.nil ?_
  refine Cod.seq ?_
  refine Cod.region [] mixed (by kernel_rfl) ?_
  refine Chain.cons (StepOK.move .none (.tmp rfl (fun _ => trivial))) rfl ?_
  refine Chain.cons (StepOK.eqI .none (.tmp rfl (fun _ => trivial)) (.int (by decide))) rfl ?_
  refine Chain.cons (StepOK.move .none (.tmp rfl (fun _ => trivial))) rfl ?_
  refine Chain.cons (StepOK.move (.at rfl rfl) (.tmp rfl (fun _ => trivial))) rfl ?_
  refine Chain.cons (StepOK.eqI (.at rfl rfl) (.tmp rfl id) (.int (by decide))) rfl ?_
  refine Chain.cons (StepOK.pickAnd .none (.tmp rfl (fun _ => trivial)) (.tmp rfl id)) rfl ?_
  refine Chain.cons (StepOK.assign .none (.tmp rfl (fun _ => trivial))) rfl ?_
  refine Chain.nil ?_
  refine Ends.then ?_
  refine Cod.weaken (.cons (t := 0) rfl Sub.nil) SubB.nil ?_
  refine Cod.ret ?_
  refine Ends.ret1 (.inl rfl) Try.results13 (ResOK.tmp rfl trivial ?_)
  exact Imp.eq (by decide +kernel)

/-- drawlaw1.is[int] -/
theorem is_int (got : Int) (e want : Int) (x : Int) (c : Prop) : (want = 0 → c) → FSpec Try.prog 14 [rep got, rep e, rep want, thunk Try.prog c x] (rep (isE 0 got e want x)) := by
  intro hpre
  refine FSpec.intro (n := 28) fnok14 Try.func14 rfl Try.ntmps14 rfl (fun w0 Mf => ?_)
  refine Cod.seq ?_
  refine Cod.region [] mixed (by kernel_rfl) ?_
  refine Chain.cons (StepOK.assign .none .bool) rfl ?_
  refine Chain.nil ?_
  refine Ends.then ?_
  refine Cod.weaken (.cons (t := 0) rfl (.cons (t := 1) rfl (.cons (t := 2) rfl (.cons (t := 3) rfl Sub.nil)))) SubB.nil ?_
  refine Cod.seq ?_
  refine Cod.region [] mixed (by kernel_rfl) ?_
  refine Chain.cons (StepOK.assign .none (.int (by decide))) rfl ?_
  refine Chain.nil ?_
  refine Ends.then ?_
  refine Cod.weaken (.cons (t := 0) rfl (.cons (t := 1) rfl (.cons (t := 2) rfl (.cons (t := 3) rfl (.cons (t := 9) rfl Sub.nil))))) SubB.nil ?_
  refine Cod.seq ?_
  refine Cod.seq ?_
  refine Cod.region [] mixed (by kernel_rfl) ?_
  refine Chain.cons (StepOK.move .none (.tmp rfl (fun _ => trivial))) rfl ?_
  refine Chain.cons (StepOK.neI .none (.tmp rfl (fun _ => trivial)) (.int (by decide))) rfl ?_
  refine Chain.nil ?_
  refine Ends.then ?_
  refine Cod.weaken (.cons (t := 0) rfl (.cons (t := 1) rfl (.cons (t := 2) rfl (.cons (t := 3) rfl (.cons (t := 9) rfl (.cons (t := 11) rfl Sub.nil)))))) SubB.nil ?_
  refine Cod.cond (t := 11) rfl trivial (fun hb1 => ?_) (fun hb1 => ?_)
  · try simp only [decide_eq_true_eq, decide_eq_false_iff_not, Bool.and_eq_true, Bool.or_eq_true, Bool.not_eq_true', Bool.not_eq_false', Bool.and_eq_false_iff, Bool.or_eq_false_iff, Int.not_lt, Int.not_le, Bool.true_eq_false, Bool.false_eq_true, true_and, and_true] at hb1
    refine Cod.seq ?_
    refine Cod.region [] mixed (by kernel_rfl) ?_
    refine Chain.cons (StepOK.move .none (.tmp rfl (fun _ => trivial))) rfl ?_
    refine Chain.cons (StepOK.move .none (.tmp rfl (fun _ => trivial))) rfl ?_
    refine Chain.cons (StepOK.eqI .none (.tmp rfl (fun _ => trivial)) (.tmp rfl (fun _ => trivial))) rfl ?_
    refine Chain.cons (StepOK.move .none (.tmp rfl (fun _ => trivial))) rfl ?_
    refine Chain.cons (StepOK.move (.at rfl rfl) (.tmp rfl (fun _ => trivial))) rfl ?_
    refine Chain.cons (StepOK.move (.at rfl rfl) (.tmp rfl (fun _ => trivial))) rfl ?_
    refine Chain.cons (StepOK.eqI (.at rfl rfl) (.tmp rfl id) (.tmp rfl id)) rfl ?_
    refine Chain.cons (StepOK.pickAnd .none (.tmp rfl (fun _ => trivial)) (.tmp rfl id)) rfl ?_
    refine Chain.cons (StepOK.assign .none (.tmp rfl (fun _ => trivial))) rfl ?_
    refine Chain.nil ?_
    refine Ends.then ?_
    refine Cod.weaken (.cons (t := 8) rfl Sub.nil) SubB.nil ?_
    refine Cod.ret ?_
    refine Ends.thenRet ?_
    refine Ends.ret1 (.inl rfl) Try.results14 (ResOK.tmp rfl trivial ?_)
    refine Imp.eq ?_; simp_all [isE]
  · try simp only [decide_eq_true_eq, decide_eq_false_iff_not, Bool.and_eq_true, Bool.or_eq_true, Bool.not_eq_true', Bool.not_eq_false', Bool.and_eq_false_iff, Bool.or_eq_false_iff, Int.not_lt, Int.not_le, Bool.true_eq_false, Bool.false_eq_true, true_and, and_true] at hb1
    refine Cod.skip ?_
    refine Ends.then ?_
    refine Cod.weaken (.cons (t := 0) rfl (.cons (t := 1) rfl (.cons (t := 3) rfl Sub.nil))) SubB.nil ?_
    refine Cod.seq ?_
    refine Cod.region [] mixed (by kernel_rfl) ?_
    refine Chain.cons (StepOK.move .none (.tmp rfl (fun _ => trivial))) rfl ?_
    refine Chain.cons (StepOK.eqI .none (.tmp rfl (fun _ => trivial)) (.int (by decide))) rfl ?_
    refine Chain.cons (StepOK.move .none (.tmp rfl (fun _ => trivial))) rfl ?_
    refine Chain.cons (StepOK.move (.at rfl rfl) (.tmp rfl (fun _ => trivial))) rfl ?_
    refine Chain.cons (StepOK.move (.at rfl rfl) (.tmp rfl (fun _ => trivial))) rfl ?_
    refine Chain.cons (StepOK.callV () (.at rfl rfl) (.tmp rfl id) (fun _ => hpre hb1) .nil) rfl ?_
    refine Chain.cons (StepOK.eqI (.at rfl rfl) (.tmp rfl id) (.tmp rfl id)) rfl ?_
    refine Chain.cons (StepOK.pickAnd .none (.tmp rfl (fun _ => trivial)) (.tmp rfl id)) rfl ?_
    refine Chain.cons (StepOK.assign .none (.tmp rfl (fun _ => trivial))) rfl ?_
    refine Chain.nil ?_
    refine Ends.then ?_
    refine Cod.weaken (.cons (t := 8) rfl Sub.nil) SubB.nil ?_
    refine Cod.ret ?_
    refine Ends.ret1 (.inl rfl) Try.results14 (ResOK.tmp rfl trivial ?_)
    refine Imp.eq ?_; simp_all [isE]

/-- drawlaw1.is[bool] -/
theorem is_bool (got : Bool) (e want : Int) (x : Bool) (c : Prop) : (want = 0 → c) → FSpec Try.prog 17 [rep got, rep e, rep want, thunk Try.prog c x] (rep (isE false got e want x)) := by
  intro hpre
  refine FSpec.intro (n := 28) fnok17 Try.func17 rfl Try.ntmps17 rfl (fun w0 Mf => ?_)
  refine Cod.seq ?_
  refine Cod.region [] mixed (by kernel_rfl) ?_
  refine Chain.cons (StepOK.assign .none .bool) rfl ?_
  refine Chain.nil ?_
  refine Ends.then ?_
  refine Cod.weaken (.cons (t := 0) rfl (.cons (t := 1) rfl (.cons (t := 2) rfl (.cons (t := 3) rfl Sub.nil)))) SubB.nil ?_
  refine Cod.seq ?_
  refine Cod.region [] mixed (by kernel_rfl) ?_
  refine Chain.cons (StepOK.assign .none .bool) rfl ?_
  refine Chain.nil ?_
  refine Ends.then ?_
  refine Cod.weaken (.cons (t := 0) rfl (.cons (t := 1) rfl (.cons (t := 2) rfl (.cons (t := 3) rfl (.cons (t := 9) rfl Sub.nil))))) SubB.nil ?_
  refine Cod.seq ?_
  refine Cod.seq ?_
  refine Cod.region [] mixed (by kernel_rfl) ?_
  refine Chain.cons (StepOK.move .none (.tmp rfl (fun _ => trivial))) rfl ?_
  refine Chain.cons (StepOK.neI .none (.tmp rfl (fun _ => trivial)) (.int (by decide))) rfl ?_
  refine Chain.nil ?_
  refine Ends.then ?_
  refine Cod.weaken (.cons (t := 0) rfl (.cons (t := 1) rfl (.cons (t := 2) rfl (.cons (t := 3) rfl (.cons (t := 9) rfl (.cons (t := 11) rfl Sub.nil)))))) SubB.nil ?_
  refine Cod.cond (t := 11) rfl trivial (fun hb1 => ?_) (fun hb1 => ?_)
  · try simp only [decide_eq_true_eq, decide_eq_false_iff_not, Bool.and_eq_true, Bool.or_eq_true, Bool.not_eq_true', Bool.not_eq_false', Bool.and_eq_false_iff, Bool.or_eq_false_iff, Int.not_lt, Int.not_le, Bool.true_eq_false, Bool.false_eq_true, true_and, and_true] at hb1
    refine Cod.seq ?_
    refine Cod.region [] mixed (by kernel_rfl) ?_
    refine Chain.cons (StepOK.move .none (.tmp rfl (fun _ => trivial))) rfl ?_
    refine Chain.cons (StepOK.move .none (.tmp rfl (fun _ => trivial))) rfl ?_
    refine Chain.cons (StepOK.eqS .none (eqAt_bool Try.underlying4) (.tmp rfl (fun _ => trivial)) (.tmp rfl (fun _ => trivial))) rfl ?_
    refine Chain.cons (StepOK.move .none (.tmp rfl (fun _ => trivial))) rfl ?_
    refine Chain.cons (StepOK.move (.at rfl rfl) (.tmp rfl (fun _ => trivial))) rfl ?_
    refine Chain.cons (StepOK.move (.at rfl rfl) (.tmp rfl (fun _ => trivial))) rfl ?_
    refine Chain.cons (StepOK.eqI (.at rfl rfl) (.tmp rfl id) (.tmp rfl id)) rfl ?_
    refine Chain.cons (StepOK.pickAnd .none (.tmp rfl (fun _ => trivial)) (.tmp rfl id)) rfl ?_
    refine Chain.cons (StepOK.assign .none (.tmp rfl (fun _ => trivial))) rfl ?_
    refine Chain.nil ?_
    refine Ends.then ?_
    refine Cod.weaken (.cons (t := 8) rfl Sub.nil) SubB.nil ?_
    refine Cod.ret ?_
    refine Ends.thenRet ?_
    refine Ends.ret1 (.inl rfl) Try.results17 (ResOK.tmp rfl trivial ?_)
    refine Imp.eq ?_; simp_all [isE]
  · try simp only [decide_eq_true_eq, decide_eq_false_iff_not, Bool.and_eq_true, Bool.or_eq_true, Bool.not_eq_true', Bool.not_eq_false', Bool.and_eq_false_iff, Bool.or_eq_false_iff, Int.not_lt, Int.not_le, Bool.true_eq_false, Bool.false_eq_true, true_and, and_true] at hb1
    refine Cod.skip ?_
    refine Ends.then ?_
    refine Cod.weaken (.cons (t := 0) rfl (.cons (t := 1) rfl (.cons (t := 3) rfl Sub.nil))) SubB.nil ?_
    refine Cod.seq ?_
    refine Cod.region [] mixed (by kernel_rfl) ?_
    refine Chain.cons (StepOK.move .none (.tmp rfl (fun _ => trivial))) rfl ?_
    refine Chain.cons (StepOK.eqI .none (.tmp rfl (fun _ => trivial)) (.int (by decide))) rfl ?_
    refine Chain.cons (StepOK.move .none (.tmp rfl (fun _ => trivial))) rfl ?_
    refine Chain.cons (StepOK.move (.at rfl rfl) (.tmp rfl (fun _ => trivial))) rfl ?_
    refine Chain.cons (StepOK.move (.at rfl rfl) (.tmp rfl (fun _ => trivial))) rfl ?_
    refine Chain.cons (StepOK.callV () (.at rfl rfl) (.tmp rfl id) (fun _ => hpre hb1) .nil) rfl ?_
    refine Chain.cons (StepOK.eqS (.at rfl rfl) (eqAt_bool Try.underlying4) (.tmp rfl id) (.tmp rfl id)) rfl ?_
    refine Chain.cons (StepOK.pickAnd .none (.tmp rfl (fun _ => trivial)) (.tmp rfl id)) rfl ?_
    refine Chain.cons (StepOK.assign .none (.tmp rfl (fun _ => trivial))) rfl ?_
    refine Chain.nil ?_
    refine Ends.then ?_
    refine Cod.weaken (.cons (t := 8) rfl Sub.nil) SubB.nil ?_
    refine Cod.ret ?_
    refine Ends.ret1 (.inl rfl) Try.results17 (ResOK.tmp rfl trivial ?_)
    refine Imp.eq ?_; simp_all [isE]

/-- drawlaw1.StretchesMatch$1 -/
theorem Stretches1_spec (a b c : Pt) : FSpec Try.prog 15 [ref a, ref b, ref c] (rep (bendW a b c)) := by
  refine FSpec.intro (n := 8) fnok15 Try.func15 rfl Try.ntmps15 rfl (fun w0 Mf => ?_)
  refine Cod.seq ?_
  refine Cod.region [] mixed (by kernel_rfl) ?_
  refine Chain.cons (StepOK.assign .none (.int (by decide))) rfl ?_
  refine Chain.nil ?_
  refine Ends.then ?_
  refine Cod.weaken (.cons (t := 0) rfl (.cons (t := 1) rfl (.cons (t := 2) rfl Sub.nil))) SubB.nil ?_
  refine Cod.seq ?_
  refine Cod.region [] mixed (by kernel_rfl) ?_
  refine Chain.cons (StepOK.load .none ty23 (.tmp rfl (fun _ => trivial))) rfl ?_
  refine Chain.cons (StepOK.load .none ty23 (.tmp rfl (fun _ => trivial))) rfl ?_
  refine Chain.cons (StepOK.load .none ty23 (.tmp rfl (fun _ => trivial))) rfl ?_
  refine Chain.cons (StepOK.call .none (BendOf_spec _ _ _) (.cons (.tmp rfl (fun _ => trivial)) (.cons (.tmp rfl (fun _ => trivial)) (.cons (.tmp rfl (fun _ => trivial)) .nil)))) rfl ?_
  refine Chain.cons (StepOK.assign .none (.tmp rfl (fun _ => trivial))) rfl ?_
  refine Chain.nil ?_
  refine Ends.then ?_
  refine Cod.weaken (.cons (t := 3) rfl Sub.nil) SubB.nil ?_
  refine Cod.ret ?_
  refine Ends.ret1 (.inl rfl) Try.results15 (ResOK.tmp rfl trivial ?_)
  exact Imp.refl

/-- drawlaw1.StretchesMatch$2 -/
theorem Stretches2_spec (a b c d : Pt) : FSpec Try.prog 18 [ref a, ref b, ref c, ref d] (rep (meetW a b c d)) := by
  refine FSpec.intro (n := 10) fnok18 Try.func18 rfl Try.ntmps18 rfl (fun w0 Mf => ?_)
  refine Cod.seq ?_
  refine Cod.region [] mixed (by kernel_rfl) ?_
  refine Chain.cons (StepOK.assign .none .bool) rfl ?_
  refine Chain.nil ?_
  refine Ends.then ?_
  refine Cod.weaken (.cons (t := 0) rfl (.cons (t := 1) rfl (.cons (t := 2) rfl (.cons (t := 3) rfl Sub.nil)))) SubB.nil ?_
  refine Cod.seq ?_
  refine Cod.region [] mixed (by kernel_rfl) ?_
  refine Chain.cons (StepOK.load .none ty23 (.tmp rfl (fun _ => trivial))) rfl ?_
  refine Chain.cons (StepOK.load .none ty23 (.tmp rfl (fun _ => trivial))) rfl ?_
  refine Chain.cons (StepOK.load .none ty23 (.tmp rfl (fun _ => trivial))) rfl ?_
  refine Chain.cons (StepOK.load .none ty23 (.tmp rfl (fun _ => trivial))) rfl ?_
  refine Chain.cons (StepOK.call .none (MeetOf_spec _ _ _ _) (.cons (.tmp rfl (fun _ => trivial)) (.cons (.tmp rfl (fun _ => trivial)) (.cons (.tmp rfl (fun _ => trivial)) (.cons (.tmp rfl (fun _ => trivial)) .nil))))) rfl ?_
  refine Chain.cons (StepOK.assign .none (.tmp rfl (fun _ => trivial))) rfl ?_
  refine Chain.nil ?_
  refine Ends.then ?_
  refine Cod.weaken (.cons (t := 4) rfl Sub.nil) SubB.nil ?_
  refine Cod.ret ?_
  refine Ends.ret1 (.inl rfl) Try.results18 (ResOK.tmp rfl trivial ?_)
  exact Imp.refl

/-- drawlaw1.StretchesMatch -/
theorem StretchesMatch_spec (a b c d : Pt) : FSpec Try.prog 3 [rep a, rep b, rep c, rep d] (rep true) := by
  refine FSpec.intro (n := 56) fnok3 Try.func3 rfl Try.ntmps3 rfl (fun w0 Mf => ?_)
  refine Cod.seq ?_
  refine Cod.region [] mixed (by kernel_rfl) ?_
  refine Chain.cons (StepOK.box .none (.tmp rfl (fun _ => trivial))) rfl ?_
  refine Chain.cons (StepOK.box .none (.tmp rfl (fun _ => trivial))) rfl ?_
  refine Chain.cons (StepOK.box .none (.tmp rfl (fun _ => trivial))) rfl ?_
  refine Chain.cons (StepOK.box .none (.tmp rfl (fun _ => trivial))) rfl ?_
  refine Chain.cons (StepOK.assign .none .bool) rfl ?_
  refine Chain.nil ?_
  refine Ends.then ?_
  refine Cod.weaken (.cons (t := 4) rfl (.cons (t := 5) rfl (.cons (t := 6) rfl (.cons (t := 7) rfl Sub.nil)))) SubB.nil ?_
  refine Cod.seq ?_
  refine Cod.region [] mixed (by kernel_rfl) ?_
  refine Chain.cons (StepOK.load .none ty23 (.tmp rfl (fun _ => trivial))) rfl ?_
  refine Chain.cons (StepOK.call .none (PointError_spec _) (.cons (.tmp rfl (fun _ => trivial)) .nil)) rfl ?_
  refine Chain.cons (StepOK.load .none ty23 (.tmp rfl (fun _ => trivial))) rfl ?_
  refine Chain.cons (StepOK.call .none (PointError_spec _) (.cons (.tmp rfl (fun _ => trivial)) .nil)) rfl ?_
  refine Chain.cons (StepOK.load .none ty23 (.tmp rfl (fun _ => trivial))) rfl ?_
  refine Chain.cons (StepOK.call .none (PointError_spec _) (.cons (.tmp rfl (fun _ => trivial)) .nil)) rfl ?_
  refine Chain.cons (StepOK.buildSlice (xs := [_, _, _]) .none sl94 ty24 hz24 (.cons (.tmp rfl (fun _ => trivial)) (.cons (.tmp rfl (fun _ => trivial)) (.cons (.tmp rfl (fun _ => trivial)) .nil))) rfl (by decide)) rfl ?_
  refine Chain.cons (StepOK.call .none (First_spec _) (.cons (.tmp rfl (fun _ => trivial)) .nil)) rfl ?_
  refine Chain.cons (StepOK.assign .none (.tmp rfl (fun _ => trivial))) rfl ?_
  refine Chain.nil ?_
  refine Ends.then ?_
  refine Cod.weaken (.cons (t := 4) rfl (.cons (t := 5) rfl (.cons (t := 6) rfl (.cons (t := 7) rfl (.cons (t := 9) rfl Sub.nil))))) SubB.nil ?_
  refine Cod.seq ?_
  refine Cod.region [] mixed (by kernel_rfl) ?_
  refine Chain.cons (StepOK.load .none ty23 (.tmp rfl (fun _ => trivial))) rfl ?_
  refine Chain.cons (StepOK.load .none ty23 (.tmp rfl (fun _ => trivial))) rfl ?_
  refine Chain.cons (StepOK.load .none ty23 (.tmp rfl (fun _ => trivial))) rfl ?_
  refine Chain.cons (StepOK.call .none (Bend_spec _ _ _) (.cons (.tmp rfl (fun _ => trivial)) (.cons (.tmp rfl (fun _ => trivial)) (.cons (.tmp rfl (fun _ => trivial)) .nil)))) rfl ?_
  refine Chain.cons (StepOK.move .none (.tmp rfl (fun _ => trivial))) rfl ?_
  refine Chain.cons (StepOK.extract .none (.tmp rfl (fun _ => trivial)) rfl) rfl ?_
  refine Chain.cons (StepOK.extract .none (.tmp rfl (fun _ => trivial)) rfl) rfl ?_
  refine Chain.cons (StepOK.assign .none (.tmp rfl (fun _ => trivial))) rfl ?_
  refine Chain.cons (StepOK.assign .none (.tmp rfl (fun _ => trivial))) rfl ?_
  refine Chain.nil ?_
  refine Ends.then ?_
  refine Cod.weaken (.cons (t := 4) rfl (.cons (t := 5) rfl (.cons (t := 6) rfl (.cons (t := 7) rfl (.cons (t := 9) rfl (.cons (t := 10) rfl (.cons (t := 11) rfl Sub.nil))))))) SubB.nil ?_
  refine Cod.seq ?_
  refine Cod.region [] mixed (by kernel_rfl) ?_
  refine Chain.cons (StepOK.load .none ty23 (.tmp rfl (fun _ => trivial))) rfl ?_
  refine Chain.cons (StepOK.load .none ty23 (.tmp rfl (fun _ => trivial))) rfl ?_
  refine Chain.cons (StepOK.load .none ty23 (.tmp rfl (fun _ => trivial))) rfl ?_
  refine Chain.cons (StepOK.load .none ty23 (.tmp rfl (fun _ => trivial))) rfl ?_
  refine Chain.cons (StepOK.call .none (Meet_spec _ _ _ _) (.cons (.tmp rfl (fun _ => trivial)) (.cons (.tmp rfl (fun _ => trivial)) (.cons (.tmp rfl (fun _ => trivial)) (.cons (.tmp rfl (fun _ => trivial)) .nil))))) rfl ?_
  refine Chain.cons (StepOK.move .none (.tmp rfl (fun _ => trivial))) rfl ?_
  refine Chain.cons (StepOK.extract .none (.tmp rfl (fun _ => trivial)) rfl) rfl ?_
  refine Chain.cons (StepOK.extract .none (.tmp rfl (fun _ => trivial)) rfl) rfl ?_
  refine Chain.cons (StepOK.assign .none (.tmp rfl (fun _ => trivial))) rfl ?_
  refine Chain.cons (StepOK.assign .none (.tmp rfl (fun _ => trivial))) rfl ?_
  refine Chain.nil ?_
  refine Ends.then ?_
  refine Cod.weaken (.cons (t := 4) rfl (.cons (t := 5) rfl (.cons (t := 6) rfl (.cons (t := 7) rfl (.cons (t := 9) rfl (.cons (t := 10) rfl (.cons (t := 11) rfl (.cons (t := 12) rfl (.cons (t := 13) rfl Sub.nil))))))))) SubB.nil ?_
  refine Cod.seq ?_
  refine Cod.region [] mixed (by kernel_rfl) ?_
  refine Chain.cons (StepOK.call .none (geoms_spec) .nil) rfl ?_
  refine Chain.cons (StepOK.move .none (.tmp rfl (fun _ => trivial))) rfl ?_
  refine Chain.cons (StepOK.move (.at rfl rfl) (.tmp rfl (fun _ => trivial))) rfl ?_
  refine Chain.cons (StepOK.move (.at rfl rfl) (.tmp rfl (fun _ => trivial))) rfl ?_
  refine Chain.cons (StepOK.move (.at rfl rfl) (.tmp rfl (fun _ => trivial))) rfl ?_
  refine Chain.cons (StepOK.makeFunc (ι := Unit) (pre := fun _ => True) (Ss := fun _ => []) (S := fun _ => rep (bendW a b c)) (Cs := [ref a, ref b, ref c]) (.at rfl rfl) fnok15 (fun _ _ => Stretches1_spec a b c) (.cons (.tmp rfl (fun _ => trivial)) (.cons (.tmp rfl (fun _ => trivial)) (.cons (.tmp rfl (fun _ => trivial)) .nil)))) rfl ?_
  refine Chain.cons (StepOK.callIf (.at rfl rfl) fnok14 (is_int _ _ _ _ _) (.cons (.tmp rfl id) (.cons (.tmp rfl id) (.cons (.tmp rfl id) (.cons (.tmp rfl id) .nil)))) (fun _ _ => trivial)) rfl ?_
  refine Chain.cons (StepOK.pickAnd .none (.tmp rfl (fun _ => trivial)) (.tmp rfl id)) rfl ?_
  refine Chain.cons (StepOK.move .none (.tmp rfl (fun _ => trivial))) rfl ?_
  refine Chain.cons (StepOK.move (.at rfl rfl) (.tmp rfl (fun _ => trivial))) rfl ?_
  refine Chain.cons (StepOK.move (.at rfl rfl) (.tmp rfl (fun _ => trivial))) rfl ?_
  refine Chain.cons (StepOK.move (.at rfl rfl) (.tmp rfl (fun _ => trivial))) rfl ?_
  refine Chain.cons (StepOK.load (.at rfl rfl) ty23 (.tmp rfl (fun _ => trivial))) rfl ?_
  refine Chain.cons (StepOK.call (.at rfl rfl) (PointError_spec _) (.cons (.tmp rfl id) .nil)) rfl ?_
  refine Chain.cons (StepOK.buildSlice (xs := [_, _]) (.at rfl rfl) sl94 ty24 hz24 (.cons (.tmp rfl id) (.cons (.tmp rfl id) .nil)) rfl (by decide)) rfl ?_
  refine Chain.cons (StepOK.call (.at rfl rfl) (First_spec _) (.cons (.tmp rfl id) .nil)) rfl ?_
  refine Chain.cons (StepOK.makeFunc (ι := Unit) (pre := fun _ => True) (Ss := fun _ => []) (S := fun _ => rep (meetW a b c d)) (Cs := [ref a, ref b, ref c, ref d]) (.at rfl rfl) fnok18 (fun _ _ => Stretches2_spec a b c d) (.cons (.tmp rfl (fun _ => trivial)) (.cons (.tmp rfl (fun _ => trivial)) (.cons (.tmp rfl (fun _ => trivial)) (.cons (.tmp rfl (fun _ => trivial)) .nil))))) rfl ?_
  refine Chain.cons (StepOK.callIf (.at rfl rfl) fnok17 (is_bool _ _ _ _ _) (.cons (.tmp rfl id) (.cons (.tmp rfl id) (.cons (.tmp rfl id) (.cons (.tmp rfl id) .nil)))) (fun _ _ => trivial)) rfl ?_
  refine Chain.cons (StepOK.pickAnd .none (.tmp rfl (fun _ => trivial)) (.tmp rfl id)) rfl ?_
  refine Chain.cons (StepOK.assign .none (.tmp rfl (fun _ => trivial))) rfl ?_
  refine Chain.nil ?_
  refine Ends.then ?_
  refine Cod.weaken (.cons (t := 8) rfl Sub.nil) SubB.nil ?_
  refine Cod.ret ?_
  refine Ends.ret1 (.inl rfl) Try.results3 (ResOK.tmp rfl trivial ?_)
  exact Imp.eq (stretches_true a b c d)

/-- geom.Turn -/
theorem Turn_spec (p a : Pt) (q : Int) : FSpec Try.prog 20 [rep p, rep a, rep q] (tup [rep (turnV p a q), rep (turnE p a q)]) := by
  refine FSpec.intro (n := 55) fnok20 Try.func20 rfl Try.ntmps20 rfl (fun w0 Mf => ?_)
  refine Cod.seq ?_
  refine Cod.region [([], none), ([], none), ([], some 6), ([], none)] mixed (by kernel_rfl) ?_
  refine Chain.consA (StepOK.box .none (.tmp rfl (fun _ => trivial))) rfl ?_
  refine Chain.consA (StepOK.box .none (.tmp rfl (fun _ => trivial))) rfl ?_
  refine Chain.alloc zo23 rfl rfl ?_
  refine Chain.consA (StepOK.assign .none (.int (by decide))) rfl ?_
  refine Chain.nil ?_
  refine Ends.then ?_
  refine Cod.weaken (.cons (t := 2) rfl (.cons (t := 3) rfl (.cons (t := 4) rfl Sub.nil))) (.cons (t := 6) rfl SubB.nil) ?_
  refine Cod.seq ?_
  refine Cod.seq ?_
  refine Cod.region [] mixed (by kernel_rfl) ?_
  refine Chain.cons (StepOK.load .none ty23 (.tmp rfl (fun _ => trivial))) rfl ?_
  refine Chain.cons (StepOK.load .none ty23 (.tmp rfl (fun _ => trivial))) rfl ?_
  refine Chain.cons (StepOK.buildSlice (xs := [_, _]) .none sl66 ty23 hz23 (.cons (.tmp rfl (fun _ => trivial)) (.cons (.tmp rfl (fun _ => trivial)) .nil)) rfl (by decide)) rfl ?_
  refine Chain.cons (StepOK.call .none (points_spec _) (.cons (.tmp rfl (fun _ => trivial)) .nil)) rfl ?_
  refine Chain.cons (StepOK.assign .none (.tmp rfl (fun _ => trivial))) rfl ?_
  refine Chain.nil ?_
  refine Ends.then ?_
  refine Cod.weaken (.cons (t := 2) rfl (.cons (t := 3) rfl (.cons (t := 4) rfl (.cons (t := 8) rfl Sub.nil)))) (.cons (t := 6) rfl SubB.nil) ?_
  refine Cod.seq ?_
  refine Cod.region [] mixed (by kernel_rfl) ?_
  refine Chain.cons (StepOK.move .none (.tmp rfl (fun _ => trivial))) rfl ?_
  refine Chain.cons (StepOK.neI .none (.tmp rfl (fun _ => trivial)) (.int (by decide))) rfl ?_
  refine Chain.nil ?_
  refine Ends.then ?_
  refine Cod.weaken (.cons (t := 2) rfl (.cons (t := 3) rfl (.cons (t := 4) rfl (.cons (t := 8) rfl (.cons (t := 18) rfl Sub.nil))))) (.cons (t := 6) rfl SubB.nil) ?_
  refine Cod.cond (t := 18) rfl trivial (fun hb1 => ?_) (fun hb1 => ?_)
  · try simp only [decide_eq_true_eq, decide_eq_false_iff_not, Bool.and_eq_true, Bool.or_eq_true, Bool.not_eq_true', Bool.not_eq_false', Bool.and_eq_false_iff, Bool.or_eq_false_iff, Int.not_lt, Int.not_le, Bool.true_eq_false, Bool.false_eq_true, true_and, and_true] at hb1
    refine Cod.seq ?_
    refine Cod.region [([], none), ([], none), ([6], some 6), ([], none)] mixed (by kernel_rfl) ?_
    refine Chain.consA (StepOK.build (y := (⟨0, 0⟩ : Pt)) .none bu23 .nil rfl (fun M w vs h => by match vs, h with | [], _ => exact ⟨_, rfl, rep_pt_cells (by decide) (by decide)⟩)) rfl ?_
    refine Chain.consA (StepOK.move .none (.tmp rfl (fun _ => trivial))) rfl ?_
    refine Chain.store ty23 rfl (.tmp rfl (fun _ => trivial)) ?_
    refine Chain.consA (StepOK.assign .none (.tmp rfl (fun _ => trivial))) rfl ?_
    refine Chain.nil ?_
    refine Ends.then ?_
    refine Cod.weaken (.cons (t := 7) rfl Sub.nil) (.cons (t := 6) rfl SubB.nil) ?_
    refine Cod.ret ?_
    refine Ends.thenRet ?_
    refine Ends.ret2 (.inl rfl) Try.results20 (ResOK.cellB ty23 rfl ?_) (ResOK.tmp rfl trivial ?_)
    all_goals (refine Imp.eq ?_; simp [turnV, turnE, hb1])
  · try simp only [decide_eq_true_eq, decide_eq_false_iff_not, Bool.and_eq_true, Bool.or_eq_true, Bool.not_eq_true', Bool.not_eq_false', Bool.and_eq_false_iff, Bool.or_eq_false_iff, Int.not_lt, Int.not_le, Bool.true_eq_false, Bool.false_eq_true, true_and, and_true] at hb1
    obtain ⟨hp1, hp2⟩ := pts2_in hb1
    refine Cod.skip ?_
    refine Ends.then ?_
    refine Cod.weaken (.cons (t := 2) rfl (.cons (t := 3) rfl (.cons (t := 4) rfl Sub.nil))) (.cons (t := 6) rfl SubB.nil) ?_
    refine Cod.seq ?_
    refine Cod.region [] mixed (by kernel_rfl) ?_
    refine Chain.cons (StepOK.fieldAddr .none fd23_0 hfd23_0 (.tmp rfl (fun _ => trivial))) rfl ?_
    refine Chain.cons (StepOK.load .none ty3 (.tmp rfl (fun _ => trivial))) rfl ?_
    refine Chain.cons (StepOK.fieldAddr .none fd23_0 hfd23_0 (.tmp rfl (fun _ => trivial))) rfl ?_
    refine Chain.cons (StepOK.load .none ty3 (.tmp rfl (fun _ => trivial))) rfl ?_
    refine Chain.cons (StepOK.sub .none (.tmp rfl (fun _ => trivial)) (.tmp rfl (fun _ => trivial)) (by intro _ h1 h2; unfold InI at *; omega)) rfl ?_
    refine Chain.cons (StepOK.fieldAddr .none fd23_1 hfd23_1 (.tmp rfl (fun _ => trivial))) rfl ?_
    refine Chain.cons (StepOK.load .none ty3 (.tmp rfl (fun _ => trivial))) rfl ?_
    refine Chain.cons (StepOK.fieldAddr .none fd23_1 hfd23_1 (.tmp rfl (fun _ => trivial))) rfl ?_
    refine Chain.cons (StepOK.load .none ty3 (.tmp rfl (fun _ => trivial))) rfl ?_
    refine Chain.cons (StepOK.sub .none (.tmp rfl (fun _ => trivial)) (.tmp rfl (fun _ => trivial)) (by intro _ h1 h2; unfold InI at *; omega)) rfl ?_
    refine Chain.cons (StepOK.assign .none (.tmp rfl (fun _ => trivial))) rfl ?_
    refine Chain.cons (StepOK.assign .none (.tmp rfl (fun _ => trivial))) rfl ?_
    refine Chain.nil ?_
    refine Ends.then ?_
    refine Cod.weaken (.cons (t := 2) rfl (.cons (t := 4) rfl (.cons (t := 9) rfl (.cons (t := 10) rfl Sub.nil)))) (.cons (t := 6) rfl SubB.nil) ?_
    refine Cod.seq ?_
    refine Cod.seq ?_
    refine Cod.region [] mixed (by kernel_rfl) ?_
    refine Chain.cons (StepOK.move .none (.tmp rfl (fun _ => trivial))) rfl ?_
    refine Chain.cons (StepOK.and3 .none (.tmp rfl (fun _ => trivial))) rfl ?_
    refine Chain.cons (StepOK.move .none (.int (by decide))) rfl ?_
    refine Chain.nil ?_
    refine Ends.then ?_
    refine Cod.weaken (.cons (t := 4) rfl (.cons (t := 9) rfl (.cons (t := 10) rfl (.cons (t := 32) rfl (.cons (t := 33) rfl Sub.nil))))) (.cons (t := 6) rfl SubB.nil) ?_
    refine Cod.block ?_
    refine Cod.loopK (ι := Nat) (fun i => [(9, ⟨True, rep (rot i (p.x - a.x, p.y - a.y)).1⟩), (10, ⟨True, rep (rot i (p.x - a.x, p.y - a.y)).2⟩), (33, ⟨True, rep ((i : Nat) : Int)⟩)]) (fun i => []) (fun i => (q % 4).toNat - i) (0) (fun i => i ≤ (q % 4).toNat) (Nat.zero_le _) (.cons (t := 9) (by rfl) (.cons (t := 10) (by rfl) (.cons (t := 33) (by rfl) Sub.nil))) SubB.nil (.cons (t := 4) (by rfl) (.cons (t := 32) (by rfl) Sub.nil)) (.cons (t := 6) rfl SubB.nil) (fun i hi => ?_)
    have hrb := rot_bd i (x := p.x - a.x) (y := p.y - a.y) (by omega) (by omega)
    refine Cod.seq ?_
    refine Cod.region [] mixed (by kernel_rfl) ?_
    refine Chain.cons (StepOK.lt .none (.tmp rfl (fun _ => trivial)) (.tmp rfl (fun _ => trivial))) rfl ?_
    refine Chain.nil ?_
    refine Ends.then ?_
    refine Cod.weaken (.cons (t := 4) rfl (.cons (t := 9) rfl (.cons (t := 10) rfl (.cons (t := 32) rfl (.cons (t := 33) rfl (.cons (t := 34) rfl Sub.nil)))))) (.cons (t := 6) rfl SubB.nil) ?_
    refine Cod.seq ?_
    refine Cod.cond (t := 34) rfl trivial (fun hb2 => ?_) (fun hb2 => ?_)
    · try simp only [decide_eq_true_eq, decide_eq_false_iff_not, Bool.and_eq_true, Bool.or_eq_true, Bool.not_eq_true', Bool.not_eq_false', Bool.and_eq_false_iff, Bool.or_eq_false_iff, Int.not_lt, Int.not_le, Bool.true_eq_false, Bool.false_eq_true, true_and, and_true] at hb2
      refine Cod.skip ?_
      refine Ends.then ?_
      refine Cod.weaken (.cons (t := 4) rfl (.cons (t := 9) rfl (.cons (t := 10) rfl (.cons (t := 32) rfl (.cons (t := 33) rfl Sub.nil))))) (.cons (t := 6) rfl SubB.nil) ?_
      refine Cod.seq ?_
      refine Cod.block ?_
      refine Cod.region [] mixed (by kernel_rfl) ?_
      refine Chain.cons (StepOK.move .none (.tmp rfl (fun _ => trivial))) rfl ?_
      refine Chain.cons (StepOK.neg .none (.tmp rfl (fun _ => trivial)) (by intro _ h1; unfold InI at *; omega)) rfl ?_
      refine Chain.cons (StepOK.move .none (.tmp rfl (fun _ => trivial))) rfl ?_
      refine Chain.cons (StepOK.assign .none (.tmp rfl (fun _ => trivial))) rfl ?_
      refine Chain.cons (StepOK.assign .none (.tmp rfl (fun _ => trivial))) rfl ?_
      refine Chain.nil ?_
      refine Ends.blkNormal ?_
      refine Ends.then ?_
      refine Cod.weaken (.cons (t := 4) rfl (.cons (t := 9) rfl (.cons (t := 10) rfl (.cons (t := 32) rfl (.cons (t := 33) rfl Sub.nil))))) (.cons (t := 6) rfl SubB.nil) ?_
      refine Cod.region [] mixed (by kernel_rfl) ?_
      refine Chain.cons (StepOK.add .none (.tmp rfl (fun _ => trivial)) (.int (by decide)) (by intro _ h1 h2; unfold InI at *; omega)) rfl ?_
      refine Chain.cons (StepOK.move .none (.tmp rfl (fun _ => trivial))) rfl ?_
      refine Chain.nil ?_
      refine Ends.againK (i + 1) ?_ (.cons (t := 9) (look_eq (by rfl) ?_) (.cons (t := 10) (look_eq (by rfl) ?_) (.cons (t := 33) (look_eq (by rfl) ?_) (.cons (t := 4) (by rfl) (.cons (t := 32) (by rfl) Sub.nil))))) (.cons (t := 6) rfl SubB.nil)
      all_goals (first | exact ⟨by omega, by omega⟩ | rfl)
    · try simp only [decide_eq_true_eq, decide_eq_false_iff_not, Bool.and_eq_true, Bool.or_eq_true, Bool.not_eq_true', Bool.not_eq_false', Bool.and_eq_false_iff, Bool.or_eq_false_iff, Int.not_lt, Int.not_le, Bool.true_eq_false, Bool.false_eq_true, true_and, and_true] at hb2
      obtain rfl : i = (q % 4).toNat := by omega
      refine Cod.exit ?_
      refine Ends.thenExit ?_
      refine Ends.thenExit ?_
      refine Ends.blkExit ?_
      refine Ends.then ?_
      refine Cod.weaken (.cons (t := 4) rfl (.cons (t := 9) rfl (.cons (t := 10) rfl Sub.nil))) (.cons (t := 6) rfl SubB.nil) ?_
      refine Cod.seq ?_
      refine Cod.region [([], none), ([], none), ([], none), ([], none), ([], none), ([], none), ([], none), ([], none), ([], none), ([], some 11), ([11], some 11)] mixed (by kernel_rfl) ?_
      refine Chain.consA (StepOK.fieldAddr .none fd23_0 hfd23_0 (.tmp rfl (fun _ => trivial))) rfl ?_
      refine Chain.consA (StepOK.load .none ty3 (.tmp rfl (fun _ => trivial))) rfl ?_
      refine Chain.consA (StepOK.move .none (.tmp rfl (fun _ => trivial))) rfl ?_
      refine Chain.consA (StepOK.add .none (.tmp rfl (fun _ => trivial)) (.tmp rfl (fun _ => trivial)) (by intro _ h1 h2; unfold InI at *; omega)) rfl ?_
      refine Chain.consA (StepOK.fieldAddr .none fd23_1 hfd23_1 (.tmp rfl (fun _ => trivial))) rfl ?_
      refine Chain.consA (StepOK.load .none ty3 (.tmp rfl (fun _ => trivial))) rfl ?_
      refine Chain.consA (StepOK.move .none (.tmp rfl (fun _ => trivial))) rfl ?_
      refine Chain.consA (StepOK.add .none (.tmp rfl (fun _ => trivial)) (.tmp rfl (fun _ => trivial)) (by intro _ h1 h2; unfold InI at *; omega)) rfl ?_
      refine Chain.consA (StepOK.build (y := (⟨_, _⟩ : Pt)) .none bu23 (.cons (.tmp rfl (fun _ => trivial)) (.cons (.tmp rfl (fun _ => trivial)) .nil)) rfl (fun M w vs h => by obtain ⟨rfl, hi⟩ := All2.ints [_, _] vs h; exact ⟨_, rfl, rep_pt_cells (p := ⟨_, _⟩) (hi _ (.head _)) (hi _ (.tail _ (.head _)))⟩)) rfl ?_
      refine Chain.alloc zo23 rfl rfl ?_
      refine Chain.store ty23 rfl (.tmp rfl (fun _ => trivial)) ?_
      refine Chain.nil ?_
      refine Ends.then ?_
      refine Cod.freeze (t := 11) rfl (.cons (t := 6) rfl SubB.nil) rfl ?_
      refine Cod.weaken (.cons (t := 11) rfl Sub.nil) (.cons (t := 6) rfl SubB.nil) ?_
      refine Cod.seq ?_
      refine Cod.seq ?_
      refine Cod.region [] mixed (by kernel_rfl) ?_
      refine Chain.cons (StepOK.load .none ty23 (.tmp rfl (fun _ => trivial))) rfl ?_
      refine Chain.cons (StepOK.call .none (CheckPoint_spec _) (.cons (.tmp rfl (fun _ => trivial)) .nil)) rfl ?_
      refine Chain.cons (StepOK.assign .none (.tmp rfl (fun _ => trivial))) rfl ?_
      refine Chain.nil ?_
      refine Ends.then ?_
      refine Cod.weaken (.cons (t := 11) rfl (.cons (t := 12) rfl Sub.nil)) (.cons (t := 6) rfl SubB.nil) ?_
      refine Cod.seq ?_
      refine Cod.region [] mixed (by kernel_rfl) ?_
      refine Chain.cons (StepOK.move .none (.tmp rfl (fun _ => trivial))) rfl ?_
      refine Chain.cons (StepOK.neI .none (.tmp rfl (fun _ => trivial)) (.int (by decide))) rfl ?_
      refine Chain.nil ?_
      refine Ends.then ?_
      refine Cod.weaken (.cons (t := 11) rfl (.cons (t := 12) rfl (.cons (t := 51) rfl Sub.nil))) (.cons (t := 6) rfl SubB.nil) ?_
      refine Cod.cond (t := 51) rfl trivial (fun hb3 => ?_) (fun hb3 => ?_)
      · try simp only [decide_eq_true_eq, decide_eq_false_iff_not, Bool.and_eq_true, Bool.or_eq_true, Bool.not_eq_true', Bool.not_eq_false', Bool.and_eq_false_iff, Bool.or_eq_false_iff, Int.not_lt, Int.not_le, Bool.true_eq_false, Bool.false_eq_true, true_and, and_true] at hb3
        refine Cod.seq ?_
        refine Cod.region [([], none), ([], none), ([6], some 6), ([], none)] mixed (by kernel_rfl) ?_
        refine Chain.consA (StepOK.build (y := (⟨0, 0⟩ : Pt)) .none bu23 .nil rfl (fun M w vs h => by match vs, h with | [], _ => exact ⟨_, rfl, rep_pt_cells (by decide) (by decide)⟩)) rfl ?_
        refine Chain.consA (StepOK.move .none (.tmp rfl (fun _ => trivial))) rfl ?_
        refine Chain.store ty23 rfl (.tmp rfl (fun _ => trivial)) ?_
        refine Chain.consA (StepOK.assign .none (.tmp rfl (fun _ => trivial))) rfl ?_
        refine Chain.nil ?_
        refine Ends.then ?_
        refine Cod.weaken (.cons (t := 7) rfl Sub.nil) (.cons (t := 6) rfl SubB.nil) ?_
        refine Cod.ret ?_
        refine Ends.thenRet ?_
        refine Ends.ret2 (.inl rfl) Try.results20 (ResOK.cellB ty23 rfl ?_) (ResOK.tmp rfl trivial ?_)
        all_goals (refine Imp.eq ?_; simp_all [turnV, turnE, turnPt])
      · try simp only [decide_eq_true_eq, decide_eq_false_iff_not, Bool.and_eq_true, Bool.or_eq_true, Bool.not_eq_true', Bool.not_eq_false', Bool.and_eq_false_iff, Bool.or_eq_false_iff, Int.not_lt, Int.not_le, Bool.true_eq_false, Bool.false_eq_true, true_and, and_true] at hb3
        refine Cod.skip ?_
        refine Ends.then ?_
        refine Cod.weaken (.cons (t := 11) rfl Sub.nil) (.cons (t := 6) rfl SubB.nil) ?_
        refine Cod.seq ?_
        refine Cod.region [([], none), ([6], some 6), ([], none)] mixed (by kernel_rfl) ?_
        refine Chain.consA (StepOK.load .none ty23 (.tmp rfl (fun _ => trivial))) rfl ?_
        refine Chain.store ty23 rfl (.tmp rfl (fun _ => trivial)) ?_
        refine Chain.consA (StepOK.assign .none (.int (by decide))) rfl ?_
        refine Chain.nil ?_
        refine Ends.then ?_
        refine Cod.weaken (.cons (t := 7) rfl Sub.nil) (.cons (t := 6) rfl SubB.nil) ?_
        refine Cod.ret ?_
        refine Ends.ret2 (.inl rfl) Try.results20 (ResOK.cellB ty23 rfl ?_) (ResOK.tmp rfl trivial ?_)
        all_goals (refine Imp.eq ?_; simp_all [turnV, turnE, turnPt])

/-- drawref1.TurnOf -/
theorem TurnOf_spec (p a : Pt) (q : Int) : ptsErr [p, a] = 0 → FSpec Try.prog 21 [rep p, rep a, rep q] (rep (turnPt p a q)) := by
  intro hpre
  refine FSpec.intro (n := 38) fnok21 Try.func21 rfl Try.ntmps21 rfl (fun w0 Mf => ?_)
  obtain ⟨hp1, hp2⟩ := pts2_in hpre
  refine Cod.seq ?_
  refine Cod.region [([], none), ([], none), ([], some 6)] mixed (by kernel_rfl) ?_
  refine Chain.consA (StepOK.box .none (.tmp rfl (fun _ => trivial))) rfl ?_
  refine Chain.consA (StepOK.box .none (.tmp rfl (fun _ => trivial))) rfl ?_
  refine Chain.alloc zo23 rfl rfl ?_
  refine Chain.nil ?_
  refine Ends.then ?_
  refine Cod.weaken (.cons (t := 2) rfl (.cons (t := 3) rfl (.cons (t := 4) rfl Sub.nil))) (.cons (t := 6) rfl SubB.nil) ?_
  refine Cod.seq ?_
  refine Cod.region [] mixed (by kernel_rfl) ?_
  refine Chain.cons (StepOK.fieldAddr .none fd23_0 hfd23_0 (.tmp rfl (fun _ => trivial))) rfl ?_
  refine Chain.cons (StepOK.load .none ty3 (.tmp rfl (fun _ => trivial))) rfl ?_
  refine Chain.cons (StepOK.fieldAddr .none fd23_0 hfd23_0 (.tmp rfl (fun _ => trivial))) rfl ?_
  refine Chain.cons (StepOK.load .none ty3 (.tmp rfl (fun _ => trivial))) rfl ?_
  refine Chain.cons (StepOK.sub .none (.tmp rfl (fun _ => trivial)) (.tmp rfl (fun _ => trivial)) (by intro _ h1 h2; unfold InI at *; omega)) rfl ?_
  refine Chain.cons (StepOK.fieldAddr .none fd23_1 hfd23_1 (.tmp rfl (fun _ => trivial))) rfl ?_
  refine Chain.cons (StepOK.load .none ty3 (.tmp rfl (fun _ => trivial))) rfl ?_
  refine Chain.cons (StepOK.fieldAddr .none fd23_1 hfd23_1 (.tmp rfl (fun _ => trivial))) rfl ?_
  refine Chain.cons (StepOK.load .none ty3 (.tmp rfl (fun _ => trivial))) rfl ?_
  refine Chain.cons (StepOK.sub .none (.tmp rfl (fun _ => trivial)) (.tmp rfl (fun _ => trivial)) (by intro _ h1 h2; unfold InI at *; omega)) rfl ?_
  refine Chain.cons (StepOK.assign .none (.tmp rfl (fun _ => trivial))) rfl ?_
  refine Chain.cons (StepOK.assign .none (.tmp rfl (fun _ => trivial))) rfl ?_
  refine Chain.nil ?_
  refine Ends.then ?_
  refine Cod.weaken (.cons (t := 2) rfl (.cons (t := 4) rfl (.cons (t := 7) rfl (.cons (t := 8) rfl Sub.nil)))) (.cons (t := 6) rfl SubB.nil) ?_
  refine Cod.seq ?_
  refine Cod.seq ?_
  refine Cod.region [] mixed (by kernel_rfl) ?_
  refine Chain.cons (StepOK.move .none (.tmp rfl (fun _ => trivial))) rfl ?_
  refine Chain.cons (StepOK.rem .none (.tmp rfl (fun _ => trivial)) (.int (by decide)) (by intro _; decide)) rfl ?_
  refine Chain.cons (StepOK.add .none (.tmp rfl (fun _ => trivial)) (.int (by decide)) (by intro _ h1 h2; have := tmod4_bd q; unfold InI at *; omega)) rfl ?_
  refine Chain.cons (StepOK.rem .none (.tmp rfl (fun _ => trivial)) (.int (by decide)) (by intro _; decide)) rfl ?_
  refine Chain.cons (StepOK.move .none (.int (by decide))) rfl ?_
  refine Chain.nil ?_
  refine Ends.then ?_
  refine Cod.weaken (.cons (t := 4) rfl (.cons (t := 7) rfl (.cons (t := 8) rfl (.cons (t := 22) rfl (.cons (t := 23) rfl Sub.nil))))) (.cons (t := 6) rfl SubB.nil) ?_
  refine Cod.block ?_
  refine Cod.loopK (ι := Nat) (fun i => [(7, ⟨True, rep (rot i (p.x - a.x, p.y - a.y)).1⟩), (8, ⟨True, rep (rot i (p.x - a.x, p.y - a.y)).2⟩), (23, ⟨True, rep ((i : Nat) : Int)⟩)]) (fun i => []) (fun i => (q % 4).toNat - i) (0) (fun i => i ≤ (q % 4).toNat) (Nat.zero_le _) (.cons (t := 7) (by rfl) (.cons (t := 8) (by rfl) (.cons (t := 23) (by rfl) Sub.nil))) SubB.nil (.cons (t := 4) (by rfl) (.cons (t := 22) (by rfl) Sub.nil)) (.cons (t := 6) rfl SubB.nil) (fun i hi => ?_)
  have hrb := rot_bd i (x := p.x - a.x) (y := p.y - a.y) (by omega) (by omega)
  refine Cod.seq ?_
  refine Cod.region [] mixed (by kernel_rfl) ?_
  refine Chain.cons (StepOK.lt .none (.tmp rfl (fun _ => trivial)) (.tmp rfl (fun _ => trivial))) rfl ?_
  refine Chain.nil ?_
  refine Ends.then ?_
  refine Cod.weaken (.cons (t := 4) rfl (.cons (t := 7) rfl (.cons (t := 8) rfl (.cons (t := 22) rfl (.cons (t := 23) rfl (.cons (t := 24) rfl Sub.nil)))))) (.cons (t := 6) rfl SubB.nil) ?_
  refine Cod.seq ?_
  refine Cod.cond (t := 24) rfl trivial (fun hb1 => ?_) (fun hb1 => ?_)
  · try simp only [decide_eq_true_eq, decide_eq_false_iff_not, Bool.and_eq_true, Bool.or_eq_true, Bool.not_eq_true', Bool.not_eq_false', Bool.and_eq_false_iff, Bool.or_eq_false_iff, Int.not_lt, Int.not_le, Bool.true_eq_false, Bool.false_eq_true, true_and, and_true] at hb1
    rw [rem4] at hb1
    refine Cod.skip ?_
    refine Ends.then ?_
    refine Cod.weaken (.cons (t := 4) rfl (.cons (t := 7) rfl (.cons (t := 8) rfl (.cons (t := 22) rfl (.cons (t := 23) rfl Sub.nil))))) (.cons (t := 6) rfl SubB.nil) ?_
    refine Cod.seq ?_
    refine Cod.block ?_
    refine Cod.region [] mixed (by kernel_rfl) ?_
    refine Chain.cons (StepOK.move .none (.tmp rfl (fun _ => trivial))) rfl ?_
    refine Chain.cons (StepOK.neg .none (.tmp rfl (fun _ => trivial)) (by intro _ h1; unfold InI at *; omega)) rfl ?_
    refine Chain.cons (StepOK.move .none (.tmp rfl (fun _ => trivial))) rfl ?_
    refine Chain.cons (StepOK.assign .none (.tmp rfl (fun _ => trivial))) rfl ?_
    refine Chain.cons (StepOK.assign .none (.tmp rfl (fun _ => trivial))) rfl ?_
    refine Chain.nil ?_
    refine Ends.blkNormal ?_
    refine Ends.then ?_
    refine Cod.weaken (.cons (t := 4) rfl (.cons (t := 7) rfl (.cons (t := 8) rfl (.cons (t := 22) rfl (.cons (t := 23) rfl Sub.nil))))) (.cons (t := 6) rfl SubB.nil) ?_
    refine Cod.region [] mixed (by kernel_rfl) ?_
    refine Chain.cons (StepOK.add .none (.tmp rfl (fun _ => trivial)) (.int (by decide)) (by intro _ h1 h2; unfold InI at *; omega)) rfl ?_
    refine Chain.cons (StepOK.move .none (.tmp rfl (fun _ => trivial))) rfl ?_
    refine Chain.nil ?_
    refine Ends.againK (i + 1) ?_ (.cons (t := 7) (look_eq (by rfl) ?_) (.cons (t := 8) (look_eq (by rfl) ?_) (.cons (t := 23) (look_eq (by rfl) ?_) (.cons (t := 4) (by rfl) (.cons (t := 22) (by rfl) Sub.nil))))) (.cons (t := 6) rfl SubB.nil)
    all_goals (first | exact ⟨by omega, by omega⟩ | rfl)
  · try simp only [decide_eq_true_eq, decide_eq_false_iff_not, Bool.and_eq_true, Bool.or_eq_true, Bool.not_eq_true', Bool.not_eq_false', Bool.and_eq_false_iff, Bool.or_eq_false_iff, Int.not_lt, Int.not_le, Bool.true_eq_false, Bool.false_eq_true, true_and, and_true] at hb1
    rw [rem4] at hb1; obtain rfl : i = (q % 4).toNat := by omega
    refine Cod.exit ?_
    refine Ends.thenExit ?_
    refine Ends.thenExit ?_
    refine Ends.blkExit ?_
    refine Ends.then ?_
    refine Cod.weaken (.cons (t := 4) rfl (.cons (t := 7) rfl (.cons (t := 8) rfl Sub.nil))) (.cons (t := 6) rfl SubB.nil) ?_
    refine Cod.seq ?_
    refine Cod.region [([], none), ([], none), ([], none), ([], none), ([], none), ([], none), ([], none), ([], none), ([], none), ([6], some 6)] mixed (by kernel_rfl) ?_
    refine Chain.consA (StepOK.fieldAddr .none fd23_0 hfd23_0 (.tmp rfl (fun _ => trivial))) rfl ?_
    refine Chain.consA (StepOK.load .none ty3 (.tmp rfl (fun _ => trivial))) rfl ?_
    refine Chain.consA (StepOK.move .none (.tmp rfl (fun _ => trivial))) rfl ?_
    refine Chain.consA (StepOK.add .none (.tmp rfl (fun _ => trivial)) (.tmp rfl (fun _ => trivial)) (by intro _ h1 h2; unfold InI at *; omega)) rfl ?_
    refine Chain.consA (StepOK.fieldAddr .none fd23_1 hfd23_1 (.tmp rfl (fun _ => trivial))) rfl ?_
    refine Chain.consA (StepOK.load .none ty3 (.tmp rfl (fun _ => trivial))) rfl ?_
    refine Chain.consA (StepOK.move .none (.tmp rfl (fun _ => trivial))) rfl ?_
    refine Chain.consA (StepOK.add .none (.tmp rfl (fun _ => trivial)) (.tmp rfl (fun _ => trivial)) (by intro _ h1 h2; unfold InI at *; omega)) rfl ?_
    refine Chain.consA (StepOK.build (y := (⟨_, _⟩ : Pt)) .none bu23 (.cons (.tmp rfl (fun _ => trivial)) (.cons (.tmp rfl (fun _ => trivial)) .nil)) rfl (fun M w vs h => by obtain ⟨rfl, hi⟩ := All2.ints [_, _] vs h; exact ⟨_, rfl, rep_pt_cells (p := ⟨_, _⟩) (hi _ (.head _)) (hi _ (.tail _ (.head _)))⟩)) rfl ?_
    refine Chain.store ty23 rfl (.tmp rfl (fun _ => trivial)) ?_
    refine Chain.nil ?_
    refine Ends.then ?_
    refine Cod.weaken Sub.nil (.cons (t := 6) rfl SubB.nil) ?_
    refine Cod.ret ?_
    refine Ends.ret1 (.inl rfl) Try.results21 (ResOK.cellB ty23 rfl ?_)
    exact Imp.refl

/-- geom.Floor -/
theorem Floor_spec (a b : Int) : (0 < b ∧ -1000000000 ≤ a ∧ a ≤ 1000000000) → FSpec Try.prog 87 [rep a, rep b] (rep (a / b)) := by
  intro hpre
  refine FSpec.intro (n := 16) fnok87 Try.func87 rfl Try.ntmps87 rfl (fun w0 Mf => ?_)
  have ht := tdiv_in (m := a) (n := b) (by unfold InI; omega) hpre.1
  refine Cod.seq ?_
  refine Cod.region [] mixed (by kernel_rfl) ?_
  refine Chain.cons (StepOK.assign .none (.int (by decide))) rfl ?_
  refine Chain.nil ?_
  refine Ends.then ?_
  refine Cod.weaken (.cons (t := 0) rfl (.cons (t := 1) rfl Sub.nil)) SubB.nil ?_
  refine Cod.seq ?_
  refine Cod.region [] mixed (by kernel_rfl) ?_
  refine Chain.cons (StepOK.move .none (.tmp rfl (fun _ => trivial))) rfl ?_
  refine Chain.cons (StepOK.move .none (.tmp rfl (fun _ => trivial))) rfl ?_
  refine Chain.cons (StepOK.quo .none (.tmp rfl (fun _ => trivial)) (.tmp rfl (fun _ => trivial)) (by intro _; omega)) rfl ?_
  refine Chain.cons (StepOK.assign .none (.tmp rfl (fun _ => trivial))) rfl ?_
  refine Chain.nil ?_
  refine Ends.then ?_
  refine Cod.weaken (.cons (t := 0) rfl (.cons (t := 1) rfl (.cons (t := 5) rfl Sub.nil))) SubB.nil ?_
  refine Cod.seq ?_
  refine Cod.seq ?_
  refine Cod.region [] mixed (by kernel_rfl) ?_
  refine Chain.cons (StepOK.move .none (.tmp rfl (fun _ => trivial))) rfl ?_
  refine Chain.cons (StepOK.move .none (.tmp rfl (fun _ => trivial))) rfl ?_
  refine Chain.cons (StepOK.rem .none (.tmp rfl (fun _ => trivial)) (.tmp rfl (fun _ => trivial)) (by intro _; omega)) rfl ?_
  refine Chain.cons (StepOK.lt .none (.tmp rfl (fun _ => trivial)) (.int (by decide))) rfl ?_
  refine Chain.nil ?_
  refine Ends.then ?_
  refine Cod.weaken (.cons (t := 5) rfl (.cons (t := 12) rfl Sub.nil)) SubB.nil ?_
  refine Cod.cond (t := 12) rfl trivial (fun hb1 => ?_) (fun hb1 => ?_)
  · try simp only [decide_eq_true_eq, decide_eq_false_iff_not, Bool.and_eq_true, Bool.or_eq_true, Bool.not_eq_true', Bool.not_eq_false', Bool.and_eq_false_iff, Bool.or_eq_false_iff, Int.not_lt, Int.not_le, Bool.true_eq_false, Bool.false_eq_true, true_and, and_true] at hb1
    refine Cod.region [] mixed (by kernel_rfl) ?_
    refine Chain.cons (StepOK.move .none (.tmp rfl (fun _ => trivial))) rfl ?_
    refine Chain.cons (StepOK.sub .none (.tmp rfl (fun _ => trivial)) (.int (by decide)) (by intro _ h1 h2; have hm := Int.mul_tdiv_add_tmod a b; have := tdiv_mul_in ⟨hpre.2.1, hpre.2.2⟩ hpre.1; have := floor_lo hpre; unfold InI at *; omega)) rfl ?_
    refine Chain.cons (StepOK.assign .none (.tmp rfl (fun _ => trivial))) rfl ?_
    refine Chain.nil ?_
    refine Ends.then ?_
    refine Cod.weaken (.cons (t := 5) rfl Sub.nil) SubB.nil ?_
    refine Cod.seq ?_
    refine Cod.region [] mixed (by kernel_rfl) ?_
    refine Chain.cons (StepOK.move .none (.tmp rfl (fun _ => trivial))) rfl ?_
    refine Chain.cons (StepOK.assign .none (.tmp rfl (fun _ => trivial))) rfl ?_
    refine Chain.nil ?_
    refine Ends.then ?_
    refine Cod.weaken (.cons (t := 4) rfl Sub.nil) SubB.nil ?_
    refine Cod.ret ?_
    refine Ends.ret1 (.inl rfl) Try.results87 (ResOK.tmp rfl trivial ?_)
    exact Imp.eq (by rw [← tdiv_floor hpre.1, if_pos (by assumption)])
  · try simp only [decide_eq_true_eq, decide_eq_false_iff_not, Bool.and_eq_true, Bool.or_eq_true, Bool.not_eq_true', Bool.not_eq_false', Bool.and_eq_false_iff, Bool.or_eq_false_iff, Int.not_lt, Int.not_le, Bool.true_eq_false, Bool.false_eq_true, true_and, and_true] at hb1
    refine Cod.skip ?_
    refine Ends.then ?_
    refine Cod.weaken (.cons (t := 5) rfl Sub.nil) SubB.nil ?_
    refine Cod.seq ?_
    refine Cod.region [] mixed (by kernel_rfl) ?_
    refine Chain.cons (StepOK.move .none (.tmp rfl (fun _ => trivial))) rfl ?_
    refine Chain.cons (StepOK.assign .none (.tmp rfl (fun _ => trivial))) rfl ?_
    refine Chain.nil ?_
    refine Ends.then ?_
    refine Cod.weaken (.cons (t := 4) rfl Sub.nil) SubB.nil ?_
    refine Cod.ret ?_
    refine Ends.ret1 (.inl rfl) Try.results87 (ResOK.tmp rfl trivial ?_)
    exact Imp.eq (by rw [← tdiv_floor hpre.1, if_neg (by omega)])

/-- drawref1.Down -/
theorem Down_spec (a b : Int) : (0 < b ∧ -1000000000 ≤ a ∧ a ≤ 1000000000) → FSpec Try.prog 27 [rep a, rep b] (rep (a / b)) := by
  intro hpre
  refine FSpec.intro (n := 17) fnok27 Try.func27 rfl Try.ntmps27 rfl (fun w0 Mf => ?_)
  refine Cod.seq ?_
  refine Cod.region [] mixed (by kernel_rfl) ?_
  refine Chain.cons (StepOK.assign .none (.int (by decide))) rfl ?_
  refine Chain.nil ?_
  refine Ends.then ?_
  refine Cod.weaken (.cons (t := 0) rfl (.cons (t := 1) rfl Sub.nil)) SubB.nil ?_
  refine Cod.seq ?_
  refine Cod.region [] mixed (by kernel_rfl) ?_
  refine Chain.cons (StepOK.move .none (.tmp rfl (fun _ => trivial))) rfl ?_
  refine Chain.cons (StepOK.move .none (.tmp rfl (fun _ => trivial))) rfl ?_
  refine Chain.cons (StepOK.quo .none (.tmp rfl (fun _ => trivial)) (.tmp rfl (fun _ => trivial)) (by intro _; omega)) rfl ?_
  refine Chain.cons (StepOK.assign .none (.tmp rfl (fun _ => trivial))) rfl ?_
  refine Chain.nil ?_
  refine Ends.then ?_
  refine Cod.weaken (.cons (t := 0) rfl (.cons (t := 1) rfl (.cons (t := 5) rfl Sub.nil))) SubB.nil ?_
  refine Cod.seq ?_
  refine Cod.seq ?_
  refine Cod.region [] mixed (by kernel_rfl) ?_
  refine Chain.cons (StepOK.move .none (.tmp rfl (fun _ => trivial))) rfl ?_
  refine Chain.cons (StepOK.move .none (.tmp rfl (fun _ => trivial))) rfl ?_
  refine Chain.cons (StepOK.mul .none (.tmp rfl (fun _ => trivial)) (.tmp rfl (fun _ => trivial)) (by intro _ _ _; exact tdiv_mul_in ⟨hpre.2.1, hpre.2.2⟩ hpre.1)) rfl ?_
  refine Chain.cons (StepOK.move .none (.tmp rfl (fun _ => trivial))) rfl ?_
  refine Chain.cons (StepOK.gt .none (.tmp rfl (fun _ => trivial)) (.tmp rfl (fun _ => trivial))) rfl ?_
  refine Chain.nil ?_
  refine Ends.then ?_
  refine Cod.weaken (.cons (t := 5) rfl (.cons (t := 13) rfl Sub.nil)) SubB.nil ?_
  refine Cod.cond (t := 13) rfl trivial (fun hb1 => ?_) (fun hb1 => ?_)
  · try simp only [decide_eq_true_eq, decide_eq_false_iff_not, Bool.and_eq_true, Bool.or_eq_true, Bool.not_eq_true', Bool.not_eq_false', Bool.and_eq_false_iff, Bool.or_eq_false_iff, Int.not_lt, Int.not_le, Bool.true_eq_false, Bool.false_eq_true, true_and, and_true] at hb1
    refine Cod.region [] mixed (by kernel_rfl) ?_
    refine Chain.cons (StepOK.move .none (.tmp rfl (fun _ => trivial))) rfl ?_
    refine Chain.cons (StepOK.sub .none (.tmp rfl (fun _ => trivial)) (.int (by decide)) (by intro _ h1 h2; have := floor_lo hpre; unfold InI at *; omega)) rfl ?_
    refine Chain.cons (StepOK.assign .none (.tmp rfl (fun _ => trivial))) rfl ?_
    refine Chain.nil ?_
    refine Ends.then ?_
    refine Cod.weaken (.cons (t := 5) rfl Sub.nil) SubB.nil ?_
    refine Cod.seq ?_
    refine Cod.region [] mixed (by kernel_rfl) ?_
    refine Chain.cons (StepOK.move .none (.tmp rfl (fun _ => trivial))) rfl ?_
    refine Chain.cons (StepOK.assign .none (.tmp rfl (fun _ => trivial))) rfl ?_
    refine Chain.nil ?_
    refine Ends.then ?_
    refine Cod.weaken (.cons (t := 4) rfl Sub.nil) SubB.nil ?_
    refine Cod.ret ?_
    refine Ends.ret1 (.inl rfl) Try.results27 (ResOK.tmp rfl trivial ?_)
    exact Imp.eq (by rw [← tdiv_down hpre.1, if_pos (by assumption)])
  · try simp only [decide_eq_true_eq, decide_eq_false_iff_not, Bool.and_eq_true, Bool.or_eq_true, Bool.not_eq_true', Bool.not_eq_false', Bool.and_eq_false_iff, Bool.or_eq_false_iff, Int.not_lt, Int.not_le, Bool.true_eq_false, Bool.false_eq_true, true_and, and_true] at hb1
    refine Cod.skip ?_
    refine Ends.then ?_
    refine Cod.weaken (.cons (t := 5) rfl Sub.nil) SubB.nil ?_
    refine Cod.seq ?_
    refine Cod.region [] mixed (by kernel_rfl) ?_
    refine Chain.cons (StepOK.move .none (.tmp rfl (fun _ => trivial))) rfl ?_
    refine Chain.cons (StepOK.assign .none (.tmp rfl (fun _ => trivial))) rfl ?_
    refine Chain.nil ?_
    refine Ends.then ?_
    refine Cod.weaken (.cons (t := 4) rfl Sub.nil) SubB.nil ?_
    refine Cod.ret ?_
    refine Ends.ret1 (.inl rfl) Try.results27 (ResOK.tmp rfl trivial ?_)
    exact Imp.eq (by rw [← tdiv_down hpre.1, if_neg (by omega)])

/-- geom.Snap -/
theorem Snap_spec (p : Pt) (g : Int) : FSpec Try.prog 24 [rep p, rep g] (tup [rep (snapV p g), rep (snapE p g)]) := by
  refine FSpec.intro (n := 50) fnok24 Try.func24 rfl Try.ntmps24 rfl (fun w0 Mf => ?_)
  refine Cod.seq ?_
  refine Cod.region [([], none), ([], some 4), ([], none)] mixed (by kernel_rfl) ?_
  refine Chain.consA (StepOK.box .none (.tmp rfl (fun _ => trivial))) rfl ?_
  refine Chain.alloc zo23 rfl rfl ?_
  refine Chain.consA (StepOK.assign .none (.int (by decide))) rfl ?_
  refine Chain.nil ?_
  refine Ends.then ?_
  refine Cod.weaken (.cons (t := 1) rfl (.cons (t := 2) rfl Sub.nil)) (.cons (t := 4) rfl SubB.nil) ?_
  refine Cod.seq ?_
  refine Cod.seq ?_
  refine Cod.region [] mixed (by kernel_rfl) ?_
  refine Chain.cons (StepOK.load .none ty23 (.tmp rfl (fun _ => trivial))) rfl ?_
  refine Chain.cons (StepOK.call .none (CheckPoint_spec _) (.cons (.tmp rfl (fun _ => trivial)) .nil)) rfl ?_
  refine Chain.cons (StepOK.assign .none (.tmp rfl (fun _ => trivial))) rfl ?_
  refine Chain.nil ?_
  refine Ends.then ?_
  refine Cod.weaken (.cons (t := 1) rfl (.cons (t := 2) rfl (.cons (t := 6) rfl Sub.nil))) (.cons (t := 4) rfl SubB.nil) ?_
  refine Cod.seq ?_
  refine Cod.region [] mixed (by kernel_rfl) ?_
  refine Chain.cons (StepOK.move .none (.tmp rfl (fun _ => trivial))) rfl ?_
  refine Chain.cons (StepOK.neI .none (.tmp rfl (fun _ => trivial)) (.int (by decide))) rfl ?_
  refine Chain.nil ?_
  refine Ends.then ?_
  refine Cod.weaken (.cons (t := 1) rfl (.cons (t := 2) rfl (.cons (t := 6) rfl (.cons (t := 12) rfl Sub.nil)))) (.cons (t := 4) rfl SubB.nil) ?_
  refine Cod.cond (t := 12) rfl trivial (fun hb1 => ?_) (fun hb1 => ?_)
  · try simp only [decide_eq_true_eq, decide_eq_false_iff_not, Bool.and_eq_true, Bool.or_eq_true, Bool.not_eq_true', Bool.not_eq_false', Bool.and_eq_false_iff, Bool.or_eq_false_iff, Int.not_lt, Int.not_le, Bool.true_eq_false, Bool.false_eq_true, true_and, and_true] at hb1
    refine Cod.seq ?_
    refine Cod.region [([], none), ([], none), ([4], some 4), ([], none)] mixed (by kernel_rfl) ?_
    refine Chain.consA (StepOK.build (y := (⟨0, 0⟩ : Pt)) .none bu23 .nil rfl (fun M w vs h => by match vs, h with | [], _ => exact ⟨_, rfl, rep_pt_cells (by decide) (by decide)⟩)) rfl ?_
    refine Chain.consA (StepOK.move .none (.tmp rfl (fun _ => trivial))) rfl ?_
    refine Chain.store ty23 rfl (.tmp rfl (fun _ => trivial)) ?_
    refine Chain.consA (StepOK.assign .none (.tmp rfl (fun _ => trivial))) rfl ?_
    refine Chain.nil ?_
    refine Ends.then ?_
    refine Cod.weaken (.cons (t := 5) rfl Sub.nil) (.cons (t := 4) rfl SubB.nil) ?_
    refine Cod.ret ?_
    refine Ends.thenRet ?_
    refine Ends.ret2 (.inl rfl) Try.results24 (ResOK.cellB ty23 rfl ?_) (ResOK.tmp rfl trivial ?_)
    all_goals (refine Imp.eq ?_; simp [snapV, snapE, hb1])
  · try simp only [decide_eq_true_eq, decide_eq_false_iff_not, Bool.and_eq_true, Bool.or_eq_true, Bool.not_eq_true', Bool.not_eq_false', Bool.and_eq_false_iff, Bool.or_eq_false_iff, Int.not_lt, Int.not_le, Bool.true_eq_false, Bool.false_eq_true, true_and, and_true] at hb1
    have hp := ptErr_in hb1
    refine Cod.skip ?_
    refine Ends.then ?_
    refine Cod.weaken (.cons (t := 1) rfl (.cons (t := 2) rfl Sub.nil)) (.cons (t := 4) rfl SubB.nil) ?_
    refine Cod.seq ?_
    refine Cod.seq ?_
    refine Cod.region [] mixed (by kernel_rfl) ?_
    refine Chain.cons (StepOK.move .none (.tmp rfl (fun _ => trivial))) rfl ?_
    refine Chain.cons (StepOK.lt .none (.tmp rfl (fun _ => trivial)) (.int (by decide))) rfl ?_
    refine Chain.cons (StepOK.move .none (.tmp rfl (fun _ => trivial))) rfl ?_
    refine Chain.cons (StepOK.move (.at rfl rfl) (.tmp rfl (fun _ => trivial))) rfl ?_
    refine Chain.cons (StepOK.gt (.at rfl rfl) (.tmp rfl id) (.int (by decide))) rfl ?_
    refine Chain.cons (StepOK.pickOr .none (.tmp rfl (fun _ => trivial)) (.tmp rfl id)) rfl ?_
    refine Chain.nil ?_
    refine Ends.then ?_
    refine Cod.weaken (.cons (t := 1) rfl (.cons (t := 2) rfl (.cons (t := 20) rfl Sub.nil))) (.cons (t := 4) rfl SubB.nil) ?_
    refine Cod.cond (t := 20) rfl trivial (fun hb2 => ?_) (fun hb2 => ?_)
    · try simp only [decide_eq_true_eq, decide_eq_false_iff_not, Bool.and_eq_true, Bool.or_eq_true, Bool.not_eq_true', Bool.not_eq_false', Bool.and_eq_false_iff, Bool.or_eq_false_iff, Int.not_lt, Int.not_le, Bool.true_eq_false, Bool.false_eq_true, true_and, and_true] at hb2
      refine Cod.seq ?_
      refine Cod.region [([], none), ([4], some 4), ([], none)] mixed (by kernel_rfl) ?_
      refine Chain.consA (StepOK.build (y := (⟨0, 0⟩ : Pt)) .none bu23 .nil rfl (fun M w vs h => by match vs, h with | [], _ => exact ⟨_, rfl, rep_pt_cells (by decide) (by decide)⟩)) rfl ?_
      refine Chain.store ty23 rfl (.tmp rfl (fun _ => trivial)) ?_
      refine Chain.consA (StepOK.assign .none (.int (by decide))) rfl ?_
      refine Chain.nil ?_
      refine Ends.then ?_
      refine Cod.weaken (.cons (t := 5) rfl Sub.nil) (.cons (t := 4) rfl SubB.nil) ?_
      refine Cod.ret ?_
      refine Ends.thenRet ?_
      refine Ends.ret2 (.inl rfl) Try.results24 (ResOK.cellB ty23 rfl ?_) (ResOK.tmp rfl trivial ?_)
      all_goals (refine Imp.eq ?_; have hg : ¬ (1 ≤ g ∧ g ≤ 20000) := (by omega); simp [snapV, snapE, hb1, if_neg hg])
    · try simp only [decide_eq_true_eq, decide_eq_false_iff_not, Bool.and_eq_true, Bool.or_eq_true, Bool.not_eq_true', Bool.not_eq_false', Bool.and_eq_false_iff, Bool.or_eq_false_iff, Int.not_lt, Int.not_le, Bool.true_eq_false, Bool.false_eq_true, true_and, and_true] at hb2
      refine Cod.skip ?_
      refine Ends.then ?_
      refine Cod.weaken (.cons (t := 1) rfl (.cons (t := 2) rfl Sub.nil)) (.cons (t := 4) rfl SubB.nil) ?_
      refine Cod.seq ?_
      refine Cod.region [([], none), ([], none), ([], none), ([], none), ([], none), ([], none), ([], none), ([], none), ([], none), ([], none), ([], none), ([], none), ([], none), ([], none), ([], none), ([], none), ([], none), ([], none), ([], none), ([], none), ([], none), ([], some 7), ([7], some 7)] mixed (by kernel_rfl) ?_
      refine Chain.consA (StepOK.fieldAddr .none fd23_0 hfd23_0 (.tmp rfl (fun _ => trivial))) rfl ?_
      refine Chain.consA (StepOK.load .none ty3 (.tmp rfl (fun _ => trivial))) rfl ?_
      refine Chain.consA (StepOK.mul .none (.int (by decide)) (.tmp rfl (fun _ => trivial)) (by intro _ h1 h2; unfold InI at *; omega)) rfl ?_
      refine Chain.consA (StepOK.move .none (.tmp rfl (fun _ => trivial))) rfl ?_
      refine Chain.consA (StepOK.add .none (.tmp rfl (fun _ => trivial)) (.tmp rfl (fun _ => trivial)) (by intro _ h1 h2; unfold InI at *; omega)) rfl ?_
      refine Chain.consA (StepOK.move .none (.tmp rfl (fun _ => trivial))) rfl ?_
      refine Chain.consA (StepOK.mul .none (.int (by decide)) (.tmp rfl (fun _ => trivial)) (by intro _ h1 h2; unfold InI at *; omega)) rfl ?_
      refine Chain.consA (StepOK.callIf .none fnok87 (Floor_spec _ _) (.cons (.tmp rfl (fun _ => trivial)) (.cons (.tmp rfl (fun _ => trivial)) .nil)) (by intro _; omega)) rfl ?_
      refine Chain.consA (StepOK.move .none (.tmp rfl (fun _ => trivial))) rfl ?_
      refine Chain.consA (StepOK.mul .none (.tmp rfl (fun _ => trivial)) (.tmp rfl (fun _ => trivial)) (by intro _ _ _; exact snapC_in (by omega) (by omega))) rfl ?_
      refine Chain.consA (StepOK.fieldAddr .none fd23_1 hfd23_1 (.tmp rfl (fun _ => trivial))) rfl ?_
      refine Chain.consA (StepOK.load .none ty3 (.tmp rfl (fun _ => trivial))) rfl ?_
      refine Chain.consA (StepOK.mul .none (.int (by decide)) (.tmp rfl (fun _ => trivial)) (by intro _ h1 h2; unfold InI at *; omega)) rfl ?_
      refine Chain.consA (StepOK.move .none (.tmp rfl (fun _ => trivial))) rfl ?_
      refine Chain.consA (StepOK.add .none (.tmp rfl (fun _ => trivial)) (.tmp rfl (fun _ => trivial)) (by intro _ h1 h2; unfold InI at *; omega)) rfl ?_
      refine Chain.consA (StepOK.move .none (.tmp rfl (fun _ => trivial))) rfl ?_
      refine Chain.consA (StepOK.mul .none (.int (by decide)) (.tmp rfl (fun _ => trivial)) (by intro _ h1 h2; unfold InI at *; omega)) rfl ?_
      refine Chain.consA (StepOK.callIf .none fnok87 (Floor_spec _ _) (.cons (.tmp rfl (fun _ => trivial)) (.cons (.tmp rfl (fun _ => trivial)) .nil)) (by intro _; omega)) rfl ?_
      refine Chain.consA (StepOK.move .none (.tmp rfl (fun _ => trivial))) rfl ?_
      refine Chain.consA (StepOK.mul .none (.tmp rfl (fun _ => trivial)) (.tmp rfl (fun _ => trivial)) (by intro _ _ _; exact snapC_in (by omega) (by omega))) rfl ?_
      refine Chain.consA (StepOK.build (y := (⟨_, _⟩ : Pt)) .none bu23 (.cons (.tmp rfl (fun _ => trivial)) (.cons (.tmp rfl (fun _ => trivial)) .nil)) rfl (fun M w vs h => by obtain ⟨rfl, hi⟩ := All2.ints [_, _] vs h; exact ⟨_, rfl, rep_pt_cells (p := ⟨_, _⟩) (hi _ (.head _)) (hi _ (.tail _ (.head _)))⟩)) rfl ?_
      refine Chain.alloc zo23 rfl rfl ?_
      refine Chain.store ty23 rfl (.tmp rfl (fun _ => trivial)) ?_
      refine Chain.nil ?_
      refine Ends.then ?_
      refine Cod.freeze (t := 7) rfl (.cons (t := 4) rfl SubB.nil) rfl ?_
      refine Cod.weaken (.cons (t := 7) rfl Sub.nil) (.cons (t := 4) rfl SubB.nil) ?_
      refine Cod.seq ?_
      refine Cod.seq ?_
      refine Cod.region [] mixed (by kernel_rfl) ?_
      refine Chain.cons (StepOK.load .none ty23 (.tmp rfl (fun _ => trivial))) rfl ?_
      refine Chain.cons (StepOK.call .none (CheckPoint_spec _) (.cons (.tmp rfl (fun _ => trivial)) .nil)) rfl ?_
      refine Chain.cons (StepOK.assign .none (.tmp rfl (fun _ => trivial))) rfl ?_
      refine Chain.nil ?_
      refine Ends.then ?_
      refine Cod.weaken (.cons (t := 7) rfl (.cons (t := 8) rfl Sub.nil)) (.cons (t := 4) rfl SubB.nil) ?_
      refine Cod.seq ?_
      refine Cod.region [] mixed (by kernel_rfl) ?_
      refine Chain.cons (StepOK.move .none (.tmp rfl (fun _ => trivial))) rfl ?_
      refine Chain.cons (StepOK.neI .none (.tmp rfl (fun _ => trivial)) (.int (by decide))) rfl ?_
      refine Chain.nil ?_
      refine Ends.then ?_
      refine Cod.weaken (.cons (t := 7) rfl (.cons (t := 8) rfl (.cons (t := 46) rfl Sub.nil))) (.cons (t := 4) rfl SubB.nil) ?_
      refine Cod.cond (t := 46) rfl trivial (fun hb3 => ?_) (fun hb3 => ?_)
      · try simp only [decide_eq_true_eq, decide_eq_false_iff_not, Bool.and_eq_true, Bool.or_eq_true, Bool.not_eq_true', Bool.not_eq_false', Bool.and_eq_false_iff, Bool.or_eq_false_iff, Int.not_lt, Int.not_le, Bool.true_eq_false, Bool.false_eq_true, true_and, and_true] at hb3
        refine Cod.seq ?_
        refine Cod.region [([], none), ([], none), ([4], some 4), ([], none)] mixed (by kernel_rfl) ?_
        refine Chain.consA (StepOK.build (y := (⟨0, 0⟩ : Pt)) .none bu23 .nil rfl (fun M w vs h => by match vs, h with | [], _ => exact ⟨_, rfl, rep_pt_cells (by decide) (by decide)⟩)) rfl ?_
        refine Chain.consA (StepOK.move .none (.tmp rfl (fun _ => trivial))) rfl ?_
        refine Chain.store ty23 rfl (.tmp rfl (fun _ => trivial)) ?_
        refine Chain.consA (StepOK.assign .none (.tmp rfl (fun _ => trivial))) rfl ?_
        refine Chain.nil ?_
        refine Ends.then ?_
        refine Cod.weaken (.cons (t := 5) rfl Sub.nil) (.cons (t := 4) rfl SubB.nil) ?_
        refine Cod.ret ?_
        refine Ends.thenRet ?_
        refine Ends.ret2 (.inl rfl) Try.results24 (ResOK.cellB ty23 rfl ?_) (ResOK.tmp rfl trivial ?_)
        all_goals (refine Imp.eq ?_; simp_all [snapV, snapE, snapPt, snapC])
      · try simp only [decide_eq_true_eq, decide_eq_false_iff_not, Bool.and_eq_true, Bool.or_eq_true, Bool.not_eq_true', Bool.not_eq_false', Bool.and_eq_false_iff, Bool.or_eq_false_iff, Int.not_lt, Int.not_le, Bool.true_eq_false, Bool.false_eq_true, true_and, and_true] at hb3
        refine Cod.skip ?_
        refine Ends.then ?_
        refine Cod.weaken (.cons (t := 7) rfl Sub.nil) (.cons (t := 4) rfl SubB.nil) ?_
        refine Cod.seq ?_
        refine Cod.region [([], none), ([4], some 4), ([], none)] mixed (by kernel_rfl) ?_
        refine Chain.consA (StepOK.load .none ty23 (.tmp rfl (fun _ => trivial))) rfl ?_
        refine Chain.store ty23 rfl (.tmp rfl (fun _ => trivial)) ?_
        refine Chain.consA (StepOK.assign .none (.int (by decide))) rfl ?_
        refine Chain.nil ?_
        refine Ends.then ?_
        refine Cod.weaken (.cons (t := 5) rfl Sub.nil) (.cons (t := 4) rfl SubB.nil) ?_
        refine Cod.ret ?_
        refine Ends.ret2 (.inl rfl) Try.results24 (ResOK.cellB ty23 rfl ?_) (ResOK.tmp rfl trivial ?_)
        all_goals (refine Imp.eq ?_; simp_all [snapV, snapE, snapPt, snapC])

/-- drawlaw1.is[api.Point] -/
theorem is_Pt (got : Pt) (e want : Int) (x : Pt) (c : Prop) : (want = 0 → c) → FSpec Try.prog 22 [rep got, rep e, rep want, thunk Try.prog c x] (rep (isE (⟨0, 0⟩ : Pt) got e want x)) := by
  intro hpre
  refine FSpec.intro (n := 28) fnok22 Try.func22 rfl Try.ntmps22 rfl (fun w0 Mf => ?_)
  refine Cod.seq ?_
  refine Cod.region [] mixed (by kernel_rfl) ?_
  refine Chain.cons (StepOK.box .none (.tmp rfl (fun _ => trivial))) rfl ?_
  refine Chain.cons (StepOK.assign .none .bool) rfl ?_
  refine Chain.nil ?_
  refine Ends.then ?_
  refine Cod.weaken (.cons (t := 1) rfl (.cons (t := 2) rfl (.cons (t := 3) rfl (.cons (t := 4) rfl Sub.nil)))) SubB.nil ?_
  refine Cod.seq ?_
  refine Cod.region [([], some 9)] mixed (by kernel_rfl) ?_
  refine Chain.alloc zo23 rfl rfl ?_
  refine Chain.nil ?_
  refine Ends.then ?_
  refine Cod.freeze (t := 9) rfl SubB.nil rfl ?_
  refine Cod.weaken (.cons (t := 1) rfl (.cons (t := 2) rfl (.cons (t := 3) rfl (.cons (t := 4) rfl (.cons (t := 9) rfl Sub.nil))))) SubB.nil ?_
  refine Cod.seq ?_
  refine Cod.seq ?_
  refine Cod.region [] mixed (by kernel_rfl) ?_
  refine Chain.cons (StepOK.move .none (.tmp rfl (fun _ => trivial))) rfl ?_
  refine Chain.cons (StepOK.neI .none (.tmp rfl (fun _ => trivial)) (.int (by decide))) rfl ?_
  refine Chain.nil ?_
  refine Ends.then ?_
  refine Cod.weaken (.cons (t := 1) rfl (.cons (t := 2) rfl (.cons (t := 3) rfl (.cons (t := 4) rfl (.cons (t := 9) rfl (.cons (t := 11) rfl Sub.nil)))))) SubB.nil ?_
  refine Cod.cond (t := 11) rfl trivial (fun hb1 => ?_) (fun hb1 => ?_)
  · try simp only [decide_eq_true_eq, decide_eq_false_iff_not, Bool.and_eq_true, Bool.or_eq_true, Bool.not_eq_true', Bool.not_eq_false', Bool.and_eq_false_iff, Bool.or_eq_false_iff, Int.not_lt, Int.not_le, Bool.true_eq_false, Bool.false_eq_true, true_and, and_true] at hb1
    refine Cod.seq ?_
    refine Cod.region [] mixed (by kernel_rfl) ?_
    refine Chain.cons (StepOK.load .none ty23 (.tmp rfl (fun _ => trivial))) rfl ?_
    refine Chain.cons (StepOK.load .none ty23 (.tmp rfl (fun _ => trivial))) rfl ?_
    refine Chain.cons (StepOK.eqS .none eq23 (.tmp rfl (fun _ => trivial)) (.tmp rfl (fun _ => trivial))) rfl ?_
    refine Chain.cons (StepOK.move .none (.tmp rfl (fun _ => trivial))) rfl ?_
    refine Chain.cons (StepOK.move (.at rfl rfl) (.tmp rfl (fun _ => trivial))) rfl ?_
    refine Chain.cons (StepOK.move (.at rfl rfl) (.tmp rfl (fun _ => trivial))) rfl ?_
    refine Chain.cons (StepOK.eqI (.at rfl rfl) (.tmp rfl id) (.tmp rfl id)) rfl ?_
    refine Chain.cons (StepOK.pickAnd .none (.tmp rfl (fun _ => trivial)) (.tmp rfl id)) rfl ?_
    refine Chain.cons (StepOK.assign .none (.tmp rfl (fun _ => trivial))) rfl ?_
    refine Chain.nil ?_
    refine Ends.then ?_
    refine Cod.weaken (.cons (t := 8) rfl Sub.nil) SubB.nil ?_
    refine Cod.ret ?_
    refine Ends.thenRet ?_
    refine Ends.ret1 (.inl rfl) Try.results22 (ResOK.tmp rfl trivial ?_)
    refine Imp.eq ?_; simp_all [isE]
  · try simp only [decide_eq_true_eq, decide_eq_false_iff_not, Bool.and_eq_true, Bool.or_eq_true, Bool.not_eq_true', Bool.not_eq_false', Bool.and_eq_false_iff, Bool.or_eq_false_iff, Int.not_lt, Int.not_le, Bool.true_eq_false, Bool.false_eq_true, true_and, and_true] at hb1
    refine Cod.skip ?_
    refine Ends.then ?_
    refine Cod.weaken (.cons (t := 1) rfl (.cons (t := 3) rfl (.cons (t := 4) rfl Sub.nil))) SubB.nil ?_
    refine Cod.seq ?_
    refine Cod.region [] mixed (by kernel_rfl) ?_
    refine Chain.cons (StepOK.move .none (.tmp rfl (fun _ => trivial))) rfl ?_
    refine Chain.cons (StepOK.eqI .none (.tmp rfl (fun _ => trivial)) (.int (by decide))) rfl ?_
    refine Chain.cons (StepOK.move .none (.tmp rfl (fun _ => trivial))) rfl ?_
    refine Chain.cons (StepOK.load (.at rfl rfl) ty23 (.tmp rfl (fun _ => trivial))) rfl ?_
    refine Chain.cons (StepOK.move (.at rfl rfl) (.tmp rfl (fun _ => trivial))) rfl ?_
    refine Chain.cons (StepOK.callV () (.at rfl rfl) (.tmp rfl id) (fun _ => hpre hb1) .nil) rfl ?_
    refine Chain.cons (StepOK.eqS (.at rfl rfl) eq23 (.tmp rfl id) (.tmp rfl id)) rfl ?_
    refine Chain.cons (StepOK.pickAnd .none (.tmp rfl (fun _ => trivial)) (.tmp rfl id)) rfl ?_
    refine Chain.cons (StepOK.assign .none (.tmp rfl (fun _ => trivial))) rfl ?_
    refine Chain.nil ?_
    refine Ends.then ?_
    refine Cod.weaken (.cons (t := 8) rfl Sub.nil) SubB.nil ?_
    refine Cod.ret ?_
    refine Ends.ret1 (.inl rfl) Try.results22 (ResOK.tmp rfl trivial ?_)
    refine Imp.eq ?_; simp_all [isE]

end Go.Proofs.Ytieepiblancbpaa
