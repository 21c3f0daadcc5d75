import Derived.Test.YtieepiblancbpaaRows
import Derived.Test.YtieepiblancbpaaGeoW
namespace Go.Proofs.Ytieepiblancbpaa
open Go Go.DB Go.RowKit
set_option maxRecDepth 100000
set_option linter.unusedSimpArgs false
set_option linter.unusedVariables false

theorem fnok4 : FnOK Try.prog 4 := ⟨_, Try.func4, by kernel_rfl, by kernel_rfl⟩
theorem fnok5 : FnOK Try.prog 5 := ⟨_, Try.func5, by kernel_rfl, by kernel_rfl⟩
theorem fnok23 : FnOK Try.prog 23 := ⟨_, Try.func23, by kernel_rfl, by kernel_rfl⟩
theorem fnok28 : FnOK Try.prog 28 := ⟨_, Try.func28, by kernel_rfl, by kernel_rfl⟩
theorem fnok29 : FnOK Try.prog 29 := ⟨_, Try.func29, by kernel_rfl, by kernel_rfl⟩
theorem fnok30 : FnOK Try.prog 30 := ⟨_, Try.func30, by kernel_rfl, by kernel_rfl⟩
theorem fnok31 : FnOK Try.prog 31 := ⟨_, Try.func31, by kernel_rfl, by kernel_rfl⟩
theorem fnok32 : FnOK Try.prog 32 := ⟨_, Try.func32, by kernel_rfl, by kernel_rfl⟩
theorem fnok33 : FnOK Try.prog 33 := ⟨_, Try.func33, by kernel_rfl, by kernel_rfl⟩
theorem fnok35 : FnOK Try.prog 35 := ⟨_, Try.func35, by kernel_rfl, by kernel_rfl⟩
theorem fnok36 : FnOK Try.prog 36 := ⟨_, Try.func36, by kernel_rfl, by kernel_rfl⟩
theorem fnok37 : FnOK Try.prog 37 := ⟨_, Try.func37, by kernel_rfl, by kernel_rfl⟩
theorem fnok38 : FnOK Try.prog 38 := ⟨_, Try.func38, by kernel_rfl, by kernel_rfl⟩
theorem fnok39 : FnOK Try.prog 39 := ⟨_, Try.func39, by kernel_rfl, by kernel_rfl⟩
theorem fnok40 : FnOK Try.prog 40 := ⟨_, Try.func40, by kernel_rfl, by kernel_rfl⟩
theorem fnok41 : FnOK Try.prog 41 := ⟨_, Try.func41, by kernel_rfl, by kernel_rfl⟩
theorem fnok42 : FnOK Try.prog 42 := ⟨_, Try.func42, by kernel_rfl, by kernel_rfl⟩
theorem fnok88 : FnOK Try.prog 88 := ⟨_, Try.func88, by kernel_rfl, by kernel_rfl⟩
theorem sl49 : SliceOf Try.prog 49 48 := Try.underlying49
theorem ty48 : Ty Try.prog 48 Bx := ⟨⟨_, Try.underlying48, rfl⟩, by kernel_rfl⟩
theorem fd48_0 : FieldAt Try.prog 48 0 0 := ⟨_, _, Try.underlying48, rfl, rfl, by kernel_rfl⟩
theorem hfd48_0 : HasField Bx Int 0 Bx.x := ⟨by decide, fun M x cs w h => (HasField.fst HasField.self).2 M _ cs w h⟩
theorem fd48_1 : FieldAt Try.prog 48 1 1 := ⟨_, _, Try.underlying48, rfl, rfl, by kernel_rfl⟩
theorem hfd48_1 : HasField Bx Int 1 Bx.y := ⟨by decide, fun M x cs w h => (HasField.snd (HasField.fst HasField.self)).2 M _ cs w h⟩
theorem fd48_2 : FieldAt Try.prog 48 2 2 := ⟨_, _, Try.underlying48, rfl, rfl, by kernel_rfl⟩
theorem hfd48_2 : HasField Bx Int 2 Bx.w := ⟨by decide, fun M x cs w h => (HasField.snd (HasField.snd (HasField.fst HasField.self))).2 M _ cs w h⟩
theorem fd48_3 : FieldAt Try.prog 48 3 3 := ⟨_, _, Try.underlying48, rfl, rfl, by kernel_rfl⟩
theorem hfd48_3 : HasField Bx Int 3 Bx.h := ⟨by decide, fun M x cs w h => (HasField.snd (HasField.snd (HasField.snd HasField.self))).2 M _ cs w h⟩
theorem hz48 : HasZero Try.prog 48 := by unfold HasZero; kernel_rfl
theorem zo48 : ZeroOf Try.prog 48 (⟨0, 0, 0, 0⟩ : Bx) := ⟨[.int .i64 0, .int .i64 0, .int .i64 0, .int .i64 0], by kernel_rfl, fun _ _ => rep_bx_cells (by decide) (by decide) (by decide) (by decide)⟩
theorem bu48 : BuildAt Try.prog 48 [.int .i64 0, .int .i64 0, .int .i64 0, .int .i64 0] [(0, 1), (1, 1), (2, 1), (3, 1)] := ⟨by kernel_rfl, _, Try.underlying48, by kernel_rfl⟩
theorem eq48 : EqAt Try.prog 48 Bx := eqAt_bx ⟨by kernel_rfl, by kernel_rfl, by kernel_rfl, by kernel_rfl⟩
/-- drawlaw1.TurnsMatch$1 -/
theorem Turns1_spec (x : Pt) : FSpec Try.prog 23 [ref x] (rep x) := by
  refine FSpec.intro (n := 3) fnok23 Try.func23 rfl Try.ntmps23 rfl (fun w0 Mf => ?_)
  refine Cod.seq ?_
  refine Cod.region [([], some 1)] mixed (by kernel_rfl) ?_
  refine Chain.alloc zo23 rfl rfl ?_
  refine Chain.nil ?_
  refine Ends.then ?_
  refine Cod.weaken (.cons (t := 0) rfl Sub.nil) (.cons (t := 1) rfl SubB.nil) ?_
  refine Cod.seq ?_
  refine Cod.region [([], none), ([1], some 1)] mixed (by kernel_rfl) ?_
  refine Chain.consA (StepOK.load .none ty23 (.tmp rfl (fun _ => trivial))) rfl ?_
  refine Chain.store ty23 rfl (.tmp rfl (fun _ => trivial)) ?_
  refine Chain.nil ?_
  refine Ends.then ?_
  refine Cod.weaken Sub.nil (.cons (t := 1) rfl SubB.nil) ?_
  refine Cod.ret ?_
  refine Ends.ret1 (.inl rfl) Try.results23 (ResOK.cellB ty23 rfl ?_)
  exact Imp.refl

/-- drawlaw1.TurnsMatch$2 -/
theorem Turns2_spec (x : Pt) : FSpec Try.prog 28 [ref x] (rep x) := by
  refine FSpec.intro (n := 3) fnok28 Try.func28 rfl Try.ntmps28 rfl (fun w0 Mf => ?_)
  refine Cod.seq ?_
  refine Cod.region [([], some 1)] mixed (by kernel_rfl) ?_
  refine Chain.alloc zo23 rfl rfl ?_
  refine Chain.nil ?_
  refine Ends.then ?_
  refine Cod.weaken (.cons (t := 0) rfl Sub.nil) (.cons (t := 1) rfl SubB.nil) ?_
  refine Cod.seq ?_
  refine Cod.region [([], none), ([1], some 1)] mixed (by kernel_rfl) ?_
  refine Chain.consA (StepOK.load .none ty23 (.tmp rfl (fun _ => trivial))) rfl ?_
  refine Chain.store ty23 rfl (.tmp rfl (fun _ => trivial)) ?_
  refine Chain.nil ?_
  refine Ends.then ?_
  refine Cod.weaken Sub.nil (.cons (t := 1) rfl SubB.nil) ?_
  refine Cod.ret ?_
  refine Ends.ret1 (.inl rfl) Try.results28 (ResOK.cellB ty23 rfl ?_)
  exact Imp.refl

/-- drawlaw1.TurnsMatch -/
theorem TurnsMatch_spec (p a : Pt) (q g : Int) : FSpec Try.prog 4 [rep p, rep a, rep q, rep g] (rep true) := by
  refine FSpec.intro (n := 92) fnok4 Try.func4 rfl Try.ntmps4 rfl (fun w0 Mf => ?_)
  refine Cod.seq ?_
  refine Cod.region [] mixed (by kernel_rfl) ?_
  refine Chain.cons (StepOK.box .none (.tmp rfl (fun _ => trivial))) rfl ?_
  refine Chain.cons (StepOK.box .none (.tmp rfl (fun _ => trivial))) rfl ?_
  refine Chain.cons (StepOK.assign .none .bool) rfl ?_
  refine Chain.nil ?_
  refine Ends.then ?_
  refine Cod.weaken (.cons (t := 2) rfl (.cons (t := 3) rfl (.cons (t := 4) rfl (.cons (t := 5) rfl Sub.nil)))) SubB.nil ?_
  refine Cod.seq ?_
  refine Cod.region [([], none), ([], none), ([], none), ([], none), ([], none), ([], none), ([], none), ([], some 9), ([9], some 9), ([], none)] mixed (by kernel_rfl) ?_
  refine Chain.consA (StepOK.load .none ty23 (.tmp rfl (fun _ => trivial))) rfl ?_
  refine Chain.consA (StepOK.load .none ty23 (.tmp rfl (fun _ => trivial))) rfl ?_
  refine Chain.consA (StepOK.move .none (.tmp rfl (fun _ => trivial))) rfl ?_
  refine Chain.consA (StepOK.call .none (Turn_spec _ _ _) (.cons (.tmp rfl (fun _ => trivial)) (.cons (.tmp rfl (fun _ => trivial)) (.cons (.tmp rfl (fun _ => trivial)) .nil)))) rfl ?_
  refine Chain.consA (StepOK.move .none (.tmp rfl (fun _ => trivial))) rfl ?_
  refine Chain.consA (StepOK.extract .none (.tmp rfl (fun _ => trivial)) rfl) rfl ?_
  refine Chain.consA (StepOK.extract .none (.tmp rfl (fun _ => trivial)) rfl) rfl ?_
  refine Chain.alloc zo23 rfl rfl ?_
  refine Chain.store ty23 rfl (.tmp rfl (fun _ => trivial)) ?_
  refine Chain.consA (StepOK.assign .none (.tmp rfl (fun _ => trivial))) rfl ?_
  refine Chain.nil ?_
  refine Ends.then ?_
  refine Cod.freeze (t := 9) rfl SubB.nil rfl ?_
  refine Cod.weaken (.cons (t := 2) rfl (.cons (t := 3) rfl (.cons (t := 4) rfl (.cons (t := 5) rfl (.cons (t := 9) rfl (.cons (t := 10) rfl Sub.nil)))))) SubB.nil ?_
  refine Cod.seq ?_
  refine Cod.region [] mixed (by kernel_rfl) ?_
  refine Chain.cons (StepOK.load .none ty23 (.tmp rfl (fun _ => trivial))) rfl ?_
  refine Chain.cons (StepOK.call .none (PointError_spec _) (.cons (.tmp rfl (fun _ => trivial)) .nil)) rfl ?_
  refine Chain.cons (StepOK.load .none ty23 (.tmp rfl (fun _ => trivial))) rfl ?_
  refine Chain.cons (StepOK.call .none (PointError_spec _) (.cons (.tmp rfl (fun _ => trivial)) .nil)) rfl ?_
  refine Chain.cons (StepOK.buildSlice (xs := [_, _]) .none sl94 ty24 hz24 (.cons (.tmp rfl (fun _ => trivial)) (.cons (.tmp rfl (fun _ => trivial)) .nil)) rfl (by decide)) rfl ?_
  refine Chain.cons (StepOK.call .none (First_spec _) (.cons (.tmp rfl (fun _ => trivial)) .nil)) rfl ?_
  refine Chain.cons (StepOK.assign .none (.tmp rfl (fun _ => trivial))) rfl ?_
  refine Chain.nil ?_
  refine Ends.then ?_
  refine Cod.weaken (.cons (t := 2) rfl (.cons (t := 3) rfl (.cons (t := 4) rfl (.cons (t := 5) rfl (.cons (t := 9) rfl (.cons (t := 10) rfl (.cons (t := 11) rfl Sub.nil))))))) SubB.nil ?_
  refine Cod.seq ?_
  refine Cod.region [([], none), ([], some 12), ([12], some 12)] mixed (by kernel_rfl) ?_
  refine Chain.consA (StepOK.build (y := (⟨0, 0⟩ : Pt)) .none bu23 .nil rfl (fun M w vs h => by match vs, h with | [], _ => exact ⟨_, rfl, rep_pt_cells (by decide) (by decide)⟩)) rfl ?_
  refine Chain.alloc zo23 rfl rfl ?_
  refine Chain.store ty23 rfl (.tmp rfl (fun _ => trivial)) ?_
  refine Chain.nil ?_
  refine Ends.then ?_
  refine Cod.weaken (.cons (t := 2) rfl (.cons (t := 3) rfl (.cons (t := 4) rfl (.cons (t := 5) rfl (.cons (t := 9) rfl (.cons (t := 10) rfl (.cons (t := 11) rfl Sub.nil))))))) (.cons (t := 12) rfl SubB.nil) ?_
  refine Cod.seq ?_
  refine Cod.seq ?_
  refine Cod.region [] mixed (by kernel_rfl) ?_
  refine Chain.cons (StepOK.move .none (.tmp rfl (fun _ => trivial))) rfl ?_
  refine Chain.cons (StepOK.eqI .none (.tmp rfl (fun _ => trivial)) (.int (by decide))) rfl ?_
  refine Chain.nil ?_
  refine Ends.then ?_
  refine Cod.weaken (.cons (t := 2) rfl (.cons (t := 3) rfl (.cons (t := 4) rfl (.cons (t := 5) rfl (.cons (t := 9) rfl (.cons (t := 10) rfl (.cons (t := 11) rfl (.cons (t := 30) rfl Sub.nil)))))))) (.cons (t := 12) rfl SubB.nil) ?_
  refine Cod.cond (t := 30) rfl trivial (fun hb1 => ?_) (fun hb1 => ?_)
  · try simp only [decide_eq_true_eq, decide_eq_false_iff_not, Bool.and_eq_true, Bool.or_eq_true, Bool.not_eq_true', Bool.not_eq_false', Bool.and_eq_false_iff, Bool.or_eq_false_iff, Int.not_lt, Int.not_le, Bool.true_eq_false, Bool.false_eq_true, true_and, and_true] at hb1
    have hpp : ptsErr [p, a] = 0 := by rw [ptsErr2]; exact hb1
    refine Cod.seq ?_
    refine Cod.region [([], none), ([], none), ([], none), ([], none), ([12], some 12)] mixed (by kernel_rfl) ?_
    refine Chain.consA (StepOK.load .none ty23 (.tmp rfl (fun _ => trivial))) rfl ?_
    refine Chain.consA (StepOK.load .none ty23 (.tmp rfl (fun _ => trivial))) rfl ?_
    refine Chain.consA (StepOK.move .none (.tmp rfl (fun _ => trivial))) rfl ?_
    refine Chain.consA (StepOK.callIf .none fnok21 (TurnOf_spec _ _ _) (.cons (.tmp rfl (fun _ => trivial)) (.cons (.tmp rfl (fun _ => trivial)) (.cons (.tmp rfl (fun _ => trivial)) .nil))) (fun _ => hpp)) rfl ?_
    refine Chain.store ty23 rfl (.tmp rfl (fun _ => trivial)) ?_
    refine Chain.nil ?_
    refine Ends.then ?_
    refine Cod.freeze (t := 12) rfl SubB.nil rfl ?_
    refine Cod.weaken (.cons (t := 3) rfl (.cons (t := 4) rfl (.cons (t := 9) rfl (.cons (t := 10) rfl (.cons (t := 12) rfl Sub.nil))))) SubB.nil ?_
    refine Cod.region [] mixed (by kernel_rfl) ?_
    refine Chain.cons (StepOK.load .none ty23 (.tmp rfl (fun _ => trivial))) rfl ?_
    refine Chain.cons (StepOK.call .none (PointError_spec _) (.cons (.tmp rfl (fun _ => trivial)) .nil)) rfl ?_
    refine Chain.cons (StepOK.assign .none (.tmp rfl (fun _ => trivial))) rfl ?_
    refine Chain.nil ?_
    refine Ends.then ?_
    refine Cod.weaken (.cons (t := 3) rfl (.cons (t := 4) rfl (.cons (t := 9) rfl (.cons (t := 10) rfl (.cons (t := 11) rfl (.cons (t := 12) rfl Sub.nil)))))) SubB.nil ?_
    refine Cod.seq ?_
    refine Cod.seq ?_
    refine Cod.region [] mixed (by kernel_rfl) ?_
    refine Chain.cons (StepOK.call .none (geoms_spec) .nil) rfl ?_
    refine Chain.cons (StepOK.not .none (.tmp rfl (fun _ => trivial))) rfl ?_
    refine Chain.cons (StepOK.move .none (.tmp rfl (fun _ => trivial))) rfl ?_
    refine Chain.cons (StepOK.load (.at rfl rfl) ty23 (.tmp rfl (fun _ => trivial))) rfl ?_
    refine Chain.cons (StepOK.move (.at rfl rfl) (.tmp rfl (fun _ => trivial))) rfl ?_
    refine Chain.cons (StepOK.move (.at rfl rfl) (.tmp rfl (fun _ => trivial))) rfl ?_
    refine Chain.cons (StepOK.makeFunc (ι := Unit) (pre := fun _ => True) (Ss := fun _ => []) (S := fun _ => rep (turnPt p a q)) (Cs := [ref (turnPt p a q)]) (.at rfl rfl) fnok23 (fun _ _ => Turns1_spec (turnPt p a q)) (.cons (.tmp rfl (fun _ => trivial)) .nil)) rfl ?_
    refine Chain.cons (StepOK.callIf (.at rfl rfl) fnok22 (is_Pt _ _ _ _ _) (.cons (.tmp rfl id) (.cons (.tmp rfl id) (.cons (.tmp rfl id) (.cons (.tmp rfl id) .nil)))) (fun _ _ => trivial)) rfl ?_
    refine Chain.cons (StepOK.not (.at rfl rfl) (.tmp rfl id)) rfl ?_
    refine Chain.cons (StepOK.pickOr .none (.tmp rfl (fun _ => trivial)) (.tmp rfl id)) rfl ?_
    refine Chain.nil ?_
    refine Ends.then ?_
    refine Cod.weaken (.cons (t := 3) rfl (.cons (t := 4) rfl (.cons (t := 46) rfl Sub.nil))) SubB.nil ?_
    refine Cod.cond (t := 46) rfl trivial (fun hb2 => ?_) (fun hb2 => ?_)
    · try simp only [decide_eq_true_eq, decide_eq_false_iff_not, Bool.and_eq_true, Bool.or_eq_true, Bool.not_eq_true', Bool.not_eq_false', Bool.and_eq_false_iff, Bool.or_eq_false_iff, Int.not_lt, Int.not_le, Bool.true_eq_false, Bool.false_eq_true, true_and, and_true] at hb2
      first | (rw [turns_a1 hpp] at hb2; simp at hb2) | (rw [turns_a2 (by assumption)] at hb2; simp at hb2)
    · try simp only [decide_eq_true_eq, decide_eq_false_iff_not, Bool.and_eq_true, Bool.or_eq_true, Bool.not_eq_true', Bool.not_eq_false', Bool.and_eq_false_iff, Bool.or_eq_false_iff, Int.not_lt, Int.not_le, Bool.true_eq_false, Bool.false_eq_true, true_and, and_true] at hb2
      refine Cod.skip ?_
      refine Ends.then ?_
      refine Cod.weaken (.cons (t := 3) rfl (.cons (t := 4) rfl Sub.nil)) SubB.nil ?_
      refine Cod.seq ?_
      refine Cod.region [([], none), ([], none), ([], none), ([], none), ([], none), ([], none), ([], some 13), ([13], some 13), ([], none)] mixed (by kernel_rfl) ?_
      refine Chain.consA (StepOK.load .none ty23 (.tmp rfl (fun _ => trivial))) rfl ?_
      refine Chain.consA (StepOK.move .none (.tmp rfl (fun _ => trivial))) rfl ?_
      refine Chain.consA (StepOK.call .none (Snap_spec _ _) (.cons (.tmp rfl (fun _ => trivial)) (.cons (.tmp rfl (fun _ => trivial)) .nil))) rfl ?_
      refine Chain.consA (StepOK.move .none (.tmp rfl (fun _ => trivial))) rfl ?_
      refine Chain.consA (StepOK.extract .none (.tmp rfl (fun _ => trivial)) rfl) rfl ?_
      refine Chain.consA (StepOK.extract .none (.tmp rfl (fun _ => trivial)) rfl) rfl ?_
      refine Chain.alloc zo23 rfl rfl ?_
      refine Chain.store ty23 rfl (.tmp rfl (fun _ => trivial)) ?_
      refine Chain.consA (StepOK.assign .none (.tmp rfl (fun _ => trivial))) rfl ?_
      refine Chain.nil ?_
      refine Ends.then ?_
      refine Cod.freeze (t := 13) rfl SubB.nil rfl ?_
      refine Cod.weaken (.cons (t := 3) rfl (.cons (t := 4) rfl (.cons (t := 10) rfl (.cons (t := 13) rfl Sub.nil)))) SubB.nil ?_
      refine Cod.seq ?_
      refine Cod.region [] mixed (by kernel_rfl) ?_
      refine Chain.cons (StepOK.load .none ty23 (.tmp rfl (fun _ => trivial))) rfl ?_
      refine Chain.cons (StepOK.call .none (PointError_spec _) (.cons (.tmp rfl (fun _ => trivial)) .nil)) rfl ?_
      refine Chain.cons (StepOK.move .none (.tmp rfl (fun _ => trivial))) rfl ?_
      refine Chain.cons (StepOK.call .none (In_spec _ _ _) (.cons (.tmp rfl (fun _ => trivial)) (.cons (.int (by decide)) (.cons (.int (by decide)) .nil)))) rfl ?_
      refine Chain.cons (StepOK.not .none (.tmp rfl (fun _ => trivial))) rfl ?_
      refine Chain.cons (StepOK.call .none (When_spec _ _) (.cons (.tmp rfl (fun _ => trivial)) (.cons (.int (by decide)) .nil))) rfl ?_
      refine Chain.cons (StepOK.buildSlice (xs := [_, _]) .none sl94 ty24 hz24 (.cons (.tmp rfl (fun _ => trivial)) (.cons (.tmp rfl (fun _ => trivial)) .nil)) rfl (by decide)) rfl ?_
      refine Chain.cons (StepOK.call .none (First_spec _) (.cons (.tmp rfl (fun _ => trivial)) .nil)) rfl ?_
      refine Chain.cons (StepOK.assign .none (.tmp rfl (fun _ => trivial))) rfl ?_
      refine Chain.nil ?_
      refine Ends.then ?_
      refine Cod.weaken (.cons (t := 3) rfl (.cons (t := 4) rfl (.cons (t := 10) rfl (.cons (t := 11) rfl (.cons (t := 13) rfl Sub.nil))))) SubB.nil ?_
      refine Cod.seq ?_
      refine Cod.region [([], none), ([], some 14), ([14], some 14)] mixed (by kernel_rfl) ?_
      refine Chain.consA (StepOK.build (y := (⟨0, 0⟩ : Pt)) .none bu23 .nil rfl (fun M w vs h => by match vs, h with | [], _ => exact ⟨_, rfl, rep_pt_cells (by decide) (by decide)⟩)) rfl ?_
      refine Chain.alloc zo23 rfl rfl ?_
      refine Chain.store ty23 rfl (.tmp rfl (fun _ => trivial)) ?_
      refine Chain.nil ?_
      refine Ends.then ?_
      refine Cod.weaken (.cons (t := 3) rfl (.cons (t := 4) rfl (.cons (t := 10) rfl (.cons (t := 11) rfl (.cons (t := 13) rfl Sub.nil))))) (.cons (t := 14) rfl SubB.nil) ?_
      refine Cod.seq ?_
      refine Cod.seq ?_
      refine Cod.region [] mixed (by kernel_rfl) ?_
      refine Chain.cons (StepOK.move .none (.tmp rfl (fun _ => trivial))) rfl ?_
      refine Chain.cons (StepOK.eqI .none (.tmp rfl (fun _ => trivial)) (.int (by decide))) rfl ?_
      refine Chain.nil ?_
      refine Ends.then ?_
      refine Cod.weaken (.cons (t := 3) rfl (.cons (t := 4) rfl (.cons (t := 10) rfl (.cons (t := 11) rfl (.cons (t := 13) rfl (.cons (t := 63) rfl Sub.nil)))))) (.cons (t := 14) rfl SubB.nil) ?_
      refine Cod.cond (t := 63) rfl trivial (fun hb3 => ?_) (fun hb3 => ?_)
      · try simp only [decide_eq_true_eq, decide_eq_false_iff_not, Bool.and_eq_true, Bool.or_eq_true, Bool.not_eq_true', Bool.not_eq_false', Bool.and_eq_false_iff, Bool.or_eq_false_iff, Int.not_lt, Int.not_le, Bool.true_eq_false, Bool.false_eq_true, true_and, and_true] at hb3
        obtain ⟨hq1, hq2⟩ := snap_ok hb3
        refine Cod.seq ?_
        refine Cod.region [([], none), ([], none), ([], none), ([], none), ([], none), ([], none), ([], none), ([], none), ([], none), ([], none), ([], none), ([], none), ([], none), ([], none), ([], none), ([], none), ([], none), ([], none), ([], none), ([], none), ([], none), ([14], some 14)] mixed (by kernel_rfl) ?_
        refine Chain.consA (StepOK.fieldAddr .none fd23_0 hfd23_0 (.tmp rfl (fun _ => trivial))) rfl ?_
        refine Chain.consA (StepOK.load .none ty3 (.tmp rfl (fun _ => trivial))) rfl ?_
        refine Chain.consA (StepOK.mul .none (.int (by decide)) (.tmp rfl (fun _ => trivial)) (by intro _ h1 h2; unfold InI at *; omega)) rfl ?_
        refine Chain.consA (StepOK.move .none (.tmp rfl (fun _ => trivial))) rfl ?_
        refine Chain.consA (StepOK.add .none (.tmp rfl (fun _ => trivial)) (.tmp rfl (fun _ => trivial)) (by intro _ h1 h2; unfold InI at *; omega)) rfl ?_
        refine Chain.consA (StepOK.move .none (.tmp rfl (fun _ => trivial))) rfl ?_
        refine Chain.consA (StepOK.mul .none (.int (by decide)) (.tmp rfl (fun _ => trivial)) (by intro _ h1 h2; unfold InI at *; omega)) rfl ?_
        refine Chain.consA (StepOK.callIf .none fnok27 (Down_spec _ _) (.cons (.tmp rfl (fun _ => trivial)) (.cons (.tmp rfl (fun _ => trivial)) .nil)) (by intro _; omega)) rfl ?_
        refine Chain.consA (StepOK.move .none (.tmp rfl (fun _ => trivial))) rfl ?_
        refine Chain.consA (StepOK.mul .none (.tmp rfl (fun _ => trivial)) (.tmp rfl (fun _ => trivial)) (by intro _ _ _; exact snapC_in (by omega) (by omega))) rfl ?_
        refine Chain.consA (StepOK.fieldAddr .none fd23_1 hfd23_1 (.tmp rfl (fun _ => trivial))) rfl ?_
        refine Chain.consA (StepOK.load .none ty3 (.tmp rfl (fun _ => trivial))) rfl ?_
        refine Chain.consA (StepOK.mul .none (.int (by decide)) (.tmp rfl (fun _ => trivial)) (by intro _ h1 h2; unfold InI at *; omega)) rfl ?_
        refine Chain.consA (StepOK.move .none (.tmp rfl (fun _ => trivial))) rfl ?_
        refine Chain.consA (StepOK.add .none (.tmp rfl (fun _ => trivial)) (.tmp rfl (fun _ => trivial)) (by intro _ h1 h2; unfold InI at *; omega)) rfl ?_
        refine Chain.consA (StepOK.move .none (.tmp rfl (fun _ => trivial))) rfl ?_
        refine Chain.consA (StepOK.mul .none (.int (by decide)) (.tmp rfl (fun _ => trivial)) (by intro _ h1 h2; unfold InI at *; omega)) rfl ?_
        refine Chain.consA (StepOK.callIf .none fnok27 (Down_spec _ _) (.cons (.tmp rfl (fun _ => trivial)) (.cons (.tmp rfl (fun _ => trivial)) .nil)) (by intro _; omega)) rfl ?_
        refine Chain.consA (StepOK.move .none (.tmp rfl (fun _ => trivial))) rfl ?_
        refine Chain.consA (StepOK.mul .none (.tmp rfl (fun _ => trivial)) (.tmp rfl (fun _ => trivial)) (by intro _ _ _; exact snapC_in (by omega) (by omega))) rfl ?_
        refine Chain.consA (StepOK.build (y := (⟨_, _⟩ : Pt)) .none bu23 (.cons (.tmp rfl (fun _ => trivial)) (.cons (.tmp rfl (fun _ => trivial)) .nil)) rfl (fun M w vs h => by obtain ⟨rfl, hi⟩ := All2.ints [_, _] vs h; exact ⟨_, rfl, rep_pt_cells (p := ⟨_, _⟩) (hi _ (.head _)) (hi _ (.tail _ (.head _)))⟩)) rfl ?_
        refine Chain.store ty23 rfl (.tmp rfl (fun _ => trivial)) ?_
        refine Chain.nil ?_
        refine Ends.then ?_
        refine Cod.freeze (t := 14) rfl SubB.nil rfl ?_
        refine Cod.weaken (.cons (t := 10) rfl (.cons (t := 13) rfl (.cons (t := 14) rfl Sub.nil))) SubB.nil ?_
        refine Cod.region [] mixed (by kernel_rfl) ?_
        refine Chain.cons (StepOK.load .none ty23 (.tmp rfl (fun _ => trivial))) rfl ?_
        refine Chain.cons (StepOK.call .none (PointError_spec _) (.cons (.tmp rfl (fun _ => trivial)) .nil)) rfl ?_
        refine Chain.cons (StepOK.assign .none (.tmp rfl (fun _ => trivial))) rfl ?_
        refine Chain.nil ?_
        refine Ends.then ?_
        refine Cod.weaken (.cons (t := 10) rfl (.cons (t := 11) rfl (.cons (t := 13) rfl (.cons (t := 14) rfl Sub.nil)))) SubB.nil ?_
        refine Cod.seq ?_
        refine Cod.region [] mixed (by kernel_rfl) ?_
        refine Chain.cons (StepOK.load .none ty23 (.tmp rfl (fun _ => trivial))) rfl ?_
        refine Chain.cons (StepOK.move .none (.tmp rfl (fun _ => trivial))) rfl ?_
        refine Chain.cons (StepOK.move .none (.tmp rfl (fun _ => trivial))) rfl ?_
        refine Chain.cons (StepOK.makeFunc (ι := Unit) (pre := fun _ => True) (Ss := fun _ => []) (S := fun _ => rep (snapPt p g)) (Cs := [ref (snapPt p g)]) .none fnok28 (fun _ _ => Turns2_spec (snapPt p g)) (.cons (.tmp rfl (fun _ => trivial)) .nil)) rfl ?_
        refine Chain.cons (StepOK.callIf .none fnok22 (is_Pt _ _ _ _ _) (.cons (.tmp rfl (fun _ => trivial)) (.cons (.tmp rfl (fun _ => trivial)) (.cons (.tmp rfl (fun _ => trivial)) (.cons (.tmp rfl (fun _ => trivial)) .nil)))) (fun _ _ => trivial)) rfl ?_
        refine Chain.cons (StepOK.assign .none (.tmp rfl (fun _ => trivial))) rfl ?_
        refine Chain.nil ?_
        refine Ends.then ?_
        refine Cod.weaken (.cons (t := 8) rfl Sub.nil) SubB.nil ?_
        refine Cod.ret ?_
        refine Ends.ret1 (.inl rfl) Try.results4 (ResOK.tmp rfl trivial ?_)
        exact Imp.eq (by first | exact turns_b1 (by assumption) | exact turns_b2 (by assumption))
      · try simp only [decide_eq_true_eq, decide_eq_false_iff_not, Bool.and_eq_true, Bool.or_eq_true, Bool.not_eq_true', Bool.not_eq_false', Bool.and_eq_false_iff, Bool.or_eq_false_iff, Int.not_lt, Int.not_le, Bool.true_eq_false, Bool.false_eq_true, true_and, and_true] at hb3
        refine Cod.skip ?_
        refine Ends.then ?_
        refine Cod.freeze (t := 14) rfl SubB.nil rfl ?_
        refine Cod.weaken (.cons (t := 10) rfl (.cons (t := 11) rfl (.cons (t := 13) rfl (.cons (t := 14) rfl Sub.nil)))) SubB.nil ?_
        refine Cod.seq ?_
        refine Cod.region [] mixed (by kernel_rfl) ?_
        refine Chain.cons (StepOK.load .none ty23 (.tmp rfl (fun _ => trivial))) rfl ?_
        refine Chain.cons (StepOK.move .none (.tmp rfl (fun _ => trivial))) rfl ?_
        refine Chain.cons (StepOK.move .none (.tmp rfl (fun _ => trivial))) rfl ?_
        refine Chain.cons (StepOK.makeFunc (ι := Unit) (pre := fun _ => True) (Ss := fun _ => []) (S := fun _ => rep (⟨0, 0⟩ : Pt)) (Cs := [ref (⟨0, 0⟩ : Pt)]) .none fnok28 (fun _ _ => Turns2_spec (⟨0, 0⟩ : Pt)) (.cons (.tmp rfl (fun _ => trivial)) .nil)) rfl ?_
        refine Chain.cons (StepOK.callIf .none fnok22 (is_Pt _ _ _ _ _) (.cons (.tmp rfl (fun _ => trivial)) (.cons (.tmp rfl (fun _ => trivial)) (.cons (.tmp rfl (fun _ => trivial)) (.cons (.tmp rfl (fun _ => trivial)) .nil)))) (fun _ _ => trivial)) rfl ?_
        refine Chain.cons (StepOK.assign .none (.tmp rfl (fun _ => trivial))) rfl ?_
        refine Chain.nil ?_
        refine Ends.then ?_
        refine Cod.weaken (.cons (t := 8) rfl Sub.nil) SubB.nil ?_
        refine Cod.ret ?_
        refine Ends.ret1 (.inl rfl) Try.results4 (ResOK.tmp rfl trivial ?_)
        exact Imp.eq (by first | exact turns_b1 (by assumption) | exact turns_b2 (by assumption))
  · try simp only [decide_eq_true_eq, decide_eq_false_iff_not, Bool.and_eq_true, Bool.or_eq_true, Bool.not_eq_true', Bool.not_eq_false', Bool.and_eq_false_iff, Bool.or_eq_false_iff, Int.not_lt, Int.not_le, Bool.true_eq_false, Bool.false_eq_true, true_and, and_true] at hb1
    refine Cod.skip ?_
    refine Ends.then ?_
    refine Cod.freeze (t := 12) rfl SubB.nil rfl ?_
    refine Cod.weaken (.cons (t := 3) rfl (.cons (t := 4) rfl (.cons (t := 9) rfl (.cons (t := 10) rfl (.cons (t := 11) rfl (.cons (t := 12) rfl Sub.nil)))))) SubB.nil ?_
    refine Cod.seq ?_
    refine Cod.seq ?_
    refine Cod.region [] mixed (by kernel_rfl) ?_
    refine Chain.cons (StepOK.call .none (geoms_spec) .nil) rfl ?_
    refine Chain.cons (StepOK.not .none (.tmp rfl (fun _ => trivial))) rfl ?_
    refine Chain.cons (StepOK.move .none (.tmp rfl (fun _ => trivial))) rfl ?_
    refine Chain.cons (StepOK.load (.at rfl rfl) ty23 (.tmp rfl (fun _ => trivial))) rfl ?_
    refine Chain.cons (StepOK.move (.at rfl rfl) (.tmp rfl (fun _ => trivial))) rfl ?_
    refine Chain.cons (StepOK.move (.at rfl rfl) (.tmp rfl (fun _ => trivial))) rfl ?_
    refine Chain.cons (StepOK.makeFunc (ι := Unit) (pre := fun _ => True) (Ss := fun _ => []) (S := fun _ => rep (⟨0, 0⟩ : Pt)) (Cs := [ref (⟨0, 0⟩ : Pt)]) (.at rfl rfl) fnok23 (fun _ _ => Turns1_spec (⟨0, 0⟩ : Pt)) (.cons (.tmp rfl (fun _ => trivial)) .nil)) rfl ?_
    refine Chain.cons (StepOK.callIf (.at rfl rfl) fnok22 (is_Pt _ _ _ _ _) (.cons (.tmp rfl id) (.cons (.tmp rfl id) (.cons (.tmp rfl id) (.cons (.tmp rfl id) .nil)))) (fun _ _ => trivial)) rfl ?_
    refine Chain.cons (StepOK.not (.at rfl rfl) (.tmp rfl id)) rfl ?_
    refine Chain.cons (StepOK.pickOr .none (.tmp rfl (fun _ => trivial)) (.tmp rfl id)) rfl ?_
    refine Chain.nil ?_
    refine Ends.then ?_
    refine Cod.weaken (.cons (t := 3) rfl (.cons (t := 4) rfl (.cons (t := 46) rfl Sub.nil))) SubB.nil ?_
    refine Cod.cond (t := 46) rfl trivial (fun hb4 => ?_) (fun hb4 => ?_)
    · try simp only [decide_eq_true_eq, decide_eq_false_iff_not, Bool.and_eq_true, Bool.or_eq_true, Bool.not_eq_true', Bool.not_eq_false', Bool.and_eq_false_iff, Bool.or_eq_false_iff, Int.not_lt, Int.not_le, Bool.true_eq_false, Bool.false_eq_true, true_and, and_true] at hb4
      first | (rw [turns_a1 hpp] at hb4; simp at hb4) | (rw [turns_a2 (by assumption)] at hb4; simp at hb4)
    · try simp only [decide_eq_true_eq, decide_eq_false_iff_not, Bool.and_eq_true, Bool.or_eq_true, Bool.not_eq_true', Bool.not_eq_false', Bool.and_eq_false_iff, Bool.or_eq_false_iff, Int.not_lt, Int.not_le, Bool.true_eq_false, Bool.false_eq_true, true_and, and_true] at hb4
      refine Cod.skip ?_
      refine Ends.then ?_
      refine Cod.weaken (.cons (t := 3) rfl (.cons (t := 4) rfl Sub.nil)) SubB.nil ?_
      refine Cod.seq ?_
      refine Cod.region [([], none), ([], none), ([], none), ([], none), ([], none), ([], none), ([], some 13), ([13], some 13), ([], none)] mixed (by kernel_rfl) ?_
      refine Chain.consA (StepOK.load .none ty23 (.tmp rfl (fun _ => trivial))) rfl ?_
      refine Chain.consA (StepOK.move .none (.tmp rfl (fun _ => trivial))) rfl ?_
      refine Chain.consA (StepOK.call .none (Snap_spec _ _) (.cons (.tmp rfl (fun _ => trivial)) (.cons (.tmp rfl (fun _ => trivial)) .nil))) rfl ?_
      refine Chain.consA (StepOK.move .none (.tmp rfl (fun _ => trivial))) rfl ?_
      refine Chain.consA (StepOK.extract .none (.tmp rfl (fun _ => trivial)) rfl) rfl ?_
      refine Chain.consA (StepOK.extract .none (.tmp rfl (fun _ => trivial)) rfl) rfl ?_
      refine Chain.alloc zo23 rfl rfl ?_
      refine Chain.store ty23 rfl (.tmp rfl (fun _ => trivial)) ?_
      refine Chain.consA (StepOK.assign .none (.tmp rfl (fun _ => trivial))) rfl ?_
      refine Chain.nil ?_
      refine Ends.then ?_
      refine Cod.freeze (t := 13) rfl SubB.nil rfl ?_
      refine Cod.weaken (.cons (t := 3) rfl (.cons (t := 4) rfl (.cons (t := 10) rfl (.cons (t := 13) rfl Sub.nil)))) SubB.nil ?_
      refine Cod.seq ?_
      refine Cod.region [] mixed (by kernel_rfl) ?_
      refine Chain.cons (StepOK.load .none ty23 (.tmp rfl (fun _ => trivial))) rfl ?_
      refine Chain.cons (StepOK.call .none (PointError_spec _) (.cons (.tmp rfl (fun _ => trivial)) .nil)) rfl ?_
      refine Chain.cons (StepOK.move .none (.tmp rfl (fun _ => trivial))) rfl ?_
      refine Chain.cons (StepOK.call .none (In_spec _ _ _) (.cons (.tmp rfl (fun _ => trivial)) (.cons (.int (by decide)) (.cons (.int (by decide)) .nil)))) rfl ?_
      refine Chain.cons (StepOK.not .none (.tmp rfl (fun _ => trivial))) rfl ?_
      refine Chain.cons (StepOK.call .none (When_spec _ _) (.cons (.tmp rfl (fun _ => trivial)) (.cons (.int (by decide)) .nil))) rfl ?_
      refine Chain.cons (StepOK.buildSlice (xs := [_, _]) .none sl94 ty24 hz24 (.cons (.tmp rfl (fun _ => trivial)) (.cons (.tmp rfl (fun _ => trivial)) .nil)) rfl (by decide)) rfl ?_
      refine Chain.cons (StepOK.call .none (First_spec _) (.cons (.tmp rfl (fun _ => trivial)) .nil)) rfl ?_
      refine Chain.cons (StepOK.assign .none (.tmp rfl (fun _ => trivial))) rfl ?_
      refine Chain.nil ?_
      refine Ends.then ?_
      refine Cod.weaken (.cons (t := 3) rfl (.cons (t := 4) rfl (.cons (t := 10) rfl (.cons (t := 11) rfl (.cons (t := 13) rfl Sub.nil))))) SubB.nil ?_
      refine Cod.seq ?_
      refine Cod.region [([], none), ([], some 14), ([14], some 14)] mixed (by kernel_rfl) ?_
      refine Chain.consA (StepOK.build (y := (⟨0, 0⟩ : Pt)) .none bu23 .nil rfl (fun M w vs h => by match vs, h with | [], _ => exact ⟨_, rfl, rep_pt_cells (by decide) (by decide)⟩)) rfl ?_
      refine Chain.alloc zo23 rfl rfl ?_
      refine Chain.store ty23 rfl (.tmp rfl (fun _ => trivial)) ?_
      refine Chain.nil ?_
      refine Ends.then ?_
      refine Cod.weaken (.cons (t := 3) rfl (.cons (t := 4) rfl (.cons (t := 10) rfl (.cons (t := 11) rfl (.cons (t := 13) rfl Sub.nil))))) (.cons (t := 14) rfl SubB.nil) ?_
      refine Cod.seq ?_
      refine Cod.seq ?_
      refine Cod.region [] mixed (by kernel_rfl) ?_
      refine Chain.cons (StepOK.move .none (.tmp rfl (fun _ => trivial))) rfl ?_
      refine Chain.cons (StepOK.eqI .none (.tmp rfl (fun _ => trivial)) (.int (by decide))) rfl ?_
      refine Chain.nil ?_
      refine Ends.then ?_
      refine Cod.weaken (.cons (t := 3) rfl (.cons (t := 4) rfl (.cons (t := 10) rfl (.cons (t := 11) rfl (.cons (t := 13) rfl (.cons (t := 63) rfl Sub.nil)))))) (.cons (t := 14) rfl SubB.nil) ?_
      refine Cod.cond (t := 63) rfl trivial (fun hb5 => ?_) (fun hb5 => ?_)
      · try simp only [decide_eq_true_eq, decide_eq_false_iff_not, Bool.and_eq_true, Bool.or_eq_true, Bool.not_eq_true', Bool.not_eq_false', Bool.and_eq_false_iff, Bool.or_eq_false_iff, Int.not_lt, Int.not_le, Bool.true_eq_false, Bool.false_eq_true, true_and, and_true] at hb5
        obtain ⟨hq1, hq2⟩ := snap_ok hb5
        refine Cod.seq ?_
        refine Cod.region [([], none), ([], none), ([], none), ([], none), ([], none), ([], none), ([], none), ([], none), ([], none), ([], none), ([], none), ([], none), ([], none), ([], none), ([], none), ([], none), ([], none), ([], none), ([], none), ([], none), ([], none), ([14], some 14)] mixed (by kernel_rfl) ?_
        refine Chain.consA (StepOK.fieldAddr .none fd23_0 hfd23_0 (.tmp rfl (fun _ => trivial))) rfl ?_
        refine Chain.consA (StepOK.load .none ty3 (.tmp rfl (fun _ => trivial))) rfl ?_
        refine Chain.consA (StepOK.mul .none (.int (by decide)) (.tmp rfl (fun _ => trivial)) (by intro _ h1 h2; unfold InI at *; omega)) rfl ?_
        refine Chain.consA (StepOK.move .none (.tmp rfl (fun _ => trivial))) rfl ?_
        refine Chain.consA (StepOK.add .none (.tmp rfl (fun _ => trivial)) (.tmp rfl (fun _ => trivial)) (by intro _ h1 h2; unfold InI at *; omega)) rfl ?_
        refine Chain.consA (StepOK.move .none (.tmp rfl (fun _ => trivial))) rfl ?_
        refine Chain.consA (StepOK.mul .none (.int (by decide)) (.tmp rfl (fun _ => trivial)) (by intro _ h1 h2; unfold InI at *; omega)) rfl ?_
        refine Chain.consA (StepOK.callIf .none fnok27 (Down_spec _ _) (.cons (.tmp rfl (fun _ => trivial)) (.cons (.tmp rfl (fun _ => trivial)) .nil)) (by intro _; omega)) rfl ?_
        refine Chain.consA (StepOK.move .none (.tmp rfl (fun _ => trivial))) rfl ?_
        refine Chain.consA (StepOK.mul .none (.tmp rfl (fun _ => trivial)) (.tmp rfl (fun _ => trivial)) (by intro _ _ _; exact snapC_in (by omega) (by omega))) rfl ?_
        refine Chain.consA (StepOK.fieldAddr .none fd23_1 hfd23_1 (.tmp rfl (fun _ => trivial))) rfl ?_
        refine Chain.consA (StepOK.load .none ty3 (.tmp rfl (fun _ => trivial))) rfl ?_
        refine Chain.consA (StepOK.mul .none (.int (by decide)) (.tmp rfl (fun _ => trivial)) (by intro _ h1 h2; unfold InI at *; omega)) rfl ?_
        refine Chain.consA (StepOK.move .none (.tmp rfl (fun _ => trivial))) rfl ?_
        refine Chain.consA (StepOK.add .none (.tmp rfl (fun _ => trivial)) (.tmp rfl (fun _ => trivial)) (by intro _ h1 h2; unfold InI at *; omega)) rfl ?_
        refine Chain.consA (StepOK.move .none (.tmp rfl (fun _ => trivial))) rfl ?_
        refine Chain.consA (StepOK.mul .none (.int (by decide)) (.tmp rfl (fun _ => trivial)) (by intro _ h1 h2; unfold InI at *; omega)) rfl ?_
        refine Chain.consA (StepOK.callIf .none fnok27 (Down_spec _ _) (.cons (.tmp rfl (fun _ => trivial)) (.cons (.tmp rfl (fun _ => trivial)) .nil)) (by intro _; omega)) rfl ?_
        refine Chain.consA (StepOK.move .none (.tmp rfl (fun _ => trivial))) rfl ?_
        refine Chain.consA (StepOK.mul .none (.tmp rfl (fun _ => trivial)) (.tmp rfl (fun _ => trivial)) (by intro _ _ _; exact snapC_in (by omega) (by omega))) rfl ?_
        refine Chain.consA (StepOK.build (y := (⟨_, _⟩ : Pt)) .none bu23 (.cons (.tmp rfl (fun _ => trivial)) (.cons (.tmp rfl (fun _ => trivial)) .nil)) rfl (fun M w vs h => by obtain ⟨rfl, hi⟩ := All2.ints [_, _] vs h; exact ⟨_, rfl, rep_pt_cells (p := ⟨_, _⟩) (hi _ (.head _)) (hi _ (.tail _ (.head _)))⟩)) rfl ?_
        refine Chain.store ty23 rfl (.tmp rfl (fun _ => trivial)) ?_
        refine Chain.nil ?_
        refine Ends.then ?_
        refine Cod.freeze (t := 14) rfl SubB.nil rfl ?_
        refine Cod.weaken (.cons (t := 10) rfl (.cons (t := 13) rfl (.cons (t := 14) rfl Sub.nil))) SubB.nil ?_
        refine Cod.region [] mixed (by kernel_rfl) ?_
        refine Chain.cons (StepOK.load .none ty23 (.tmp rfl (fun _ => trivial))) rfl ?_
        refine Chain.cons (StepOK.call .none (PointError_spec _) (.cons (.tmp rfl (fun _ => trivial)) .nil)) rfl ?_
        refine Chain.cons (StepOK.assign .none (.tmp rfl (fun _ => trivial))) rfl ?_
        refine Chain.nil ?_
        refine Ends.then ?_
        refine Cod.weaken (.cons (t := 10) rfl (.cons (t := 11) rfl (.cons (t := 13) rfl (.cons (t := 14) rfl Sub.nil)))) SubB.nil ?_
        refine Cod.seq ?_
        refine Cod.region [] mixed (by kernel_rfl) ?_
        refine Chain.cons (StepOK.load .none ty23 (.tmp rfl (fun _ => trivial))) rfl ?_
        refine Chain.cons (StepOK.move .none (.tmp rfl (fun _ => trivial))) rfl ?_
        refine Chain.cons (StepOK.move .none (.tmp rfl (fun _ => trivial))) rfl ?_
        refine Chain.cons (StepOK.makeFunc (ι := Unit) (pre := fun _ => True) (Ss := fun _ => []) (S := fun _ => rep (snapPt p g)) (Cs := [ref (snapPt p g)]) .none fnok28 (fun _ _ => Turns2_spec (snapPt p g)) (.cons (.tmp rfl (fun _ => trivial)) .nil)) rfl ?_
        refine Chain.cons (StepOK.callIf .none fnok22 (is_Pt _ _ _ _ _) (.cons (.tmp rfl (fun _ => trivial)) (.cons (.tmp rfl (fun _ => trivial)) (.cons (.tmp rfl (fun _ => trivial)) (.cons (.tmp rfl (fun _ => trivial)) .nil)))) (fun _ _ => trivial)) rfl ?_
        refine Chain.cons (StepOK.assign .none (.tmp rfl (fun _ => trivial))) rfl ?_
        refine Chain.nil ?_
        refine Ends.then ?_
        refine Cod.weaken (.cons (t := 8) rfl Sub.nil) SubB.nil ?_
        refine Cod.ret ?_
        refine Ends.ret1 (.inl rfl) Try.results4 (ResOK.tmp rfl trivial ?_)
        exact Imp.eq (by first | exact turns_b1 (by assumption) | exact turns_b2 (by assumption))
      · try simp only [decide_eq_true_eq, decide_eq_false_iff_not, Bool.and_eq_true, Bool.or_eq_true, Bool.not_eq_true', Bool.not_eq_false', Bool.and_eq_false_iff, Bool.or_eq_false_iff, Int.not_lt, Int.not_le, Bool.true_eq_false, Bool.false_eq_true, true_and, and_true] at hb5
        refine Cod.skip ?_
        refine Ends.then ?_
        refine Cod.freeze (t := 14) rfl SubB.nil rfl ?_
        refine Cod.weaken (.cons (t := 10) rfl (.cons (t := 11) rfl (.cons (t := 13) rfl (.cons (t := 14) rfl Sub.nil)))) SubB.nil ?_
        refine Cod.seq ?_
        refine Cod.region [] mixed (by kernel_rfl) ?_
        refine Chain.cons (StepOK.load .none ty23 (.tmp rfl (fun _ => trivial))) rfl ?_
        refine Chain.cons (StepOK.move .none (.tmp rfl (fun _ => trivial))) rfl ?_
        refine Chain.cons (StepOK.move .none (.tmp rfl (fun _ => trivial))) rfl ?_
        refine Chain.cons (StepOK.makeFunc (ι := Unit) (pre := fun _ => True) (Ss := fun _ => []) (S := fun _ => rep (⟨0, 0⟩ : Pt)) (Cs := [ref (⟨0, 0⟩ : Pt)]) .none fnok28 (fun _ _ => Turns2_spec (⟨0, 0⟩ : Pt)) (.cons (.tmp rfl (fun _ => trivial)) .nil)) rfl ?_
        refine Chain.cons (StepOK.callIf .none fnok22 (is_Pt _ _ _ _ _) (.cons (.tmp rfl (fun _ => trivial)) (.cons (.tmp rfl (fun _ => trivial)) (.cons (.tmp rfl (fun _ => trivial)) (.cons (.tmp rfl (fun _ => trivial)) .nil)))) (fun _ _ => trivial)) rfl ?_
        refine Chain.cons (StepOK.assign .none (.tmp rfl (fun _ => trivial))) rfl ?_
        refine Chain.nil ?_
        refine Ends.then ?_
        refine Cod.weaken (.cons (t := 8) rfl Sub.nil) SubB.nil ?_
        refine Cod.ret ?_
        refine Ends.ret1 (.inl rfl) Try.results4 (ResOK.tmp rfl trivial ?_)
        exact Imp.eq (by first | exact turns_b1 (by assumption) | exact turns_b2 (by assumption))

/-- geom.CheckBox -/
theorem CheckBox_spec (b : Bx) : FSpec Try.prog 33 [rep b] (rep (bxErr b)) := by
  refine FSpec.intro (n := 31) fnok33 Try.func33 rfl Try.ntmps33 rfl (fun w0 Mf => ?_)
  refine Cod.seq ?_
  refine Cod.region [] mixed (by kernel_rfl) ?_
  refine Chain.cons (StepOK.box .none (.tmp rfl (fun _ => trivial))) rfl ?_
  refine Chain.cons (StepOK.assign .none (.int (by decide))) rfl ?_
  refine Chain.nil ?_
  refine Ends.then ?_
  refine Cod.weaken (.cons (t := 1) rfl Sub.nil) SubB.nil ?_
  refine Cod.seq ?_
  refine Cod.seq ?_
  refine Cod.region [] mixed (by kernel_rfl) ?_
  refine Chain.cons (StepOK.fieldAddr .none fd48_0 hfd48_0 (.tmp rfl (fun _ => trivial))) rfl ?_
  refine Chain.cons (StepOK.load .none ty3 (.tmp rfl (fun _ => trivial))) rfl ?_
  refine Chain.cons (StepOK.call .none (out_spec _) (.cons (.tmp rfl (fun _ => trivial)) .nil)) rfl ?_
  refine Chain.cons (StepOK.move .none (.tmp rfl (fun _ => trivial))) rfl ?_
  refine Chain.cons (StepOK.fieldAddr (.at rfl rfl) fd48_1 hfd48_1 (.tmp rfl (fun _ => trivial))) rfl ?_
  refine Chain.cons (StepOK.load (.at rfl rfl) ty3 (.tmp rfl id)) rfl ?_
  refine Chain.cons (StepOK.call (.at rfl rfl) (out_spec _) (.cons (.tmp rfl id) .nil)) rfl ?_
  refine Chain.cons (StepOK.pickOr .none (.tmp rfl (fun _ => trivial)) (.tmp rfl id)) rfl ?_
  refine Chain.cons (StepOK.move .none (.tmp rfl (fun _ => trivial))) rfl ?_
  refine Chain.cons (StepOK.fieldAddr (.at rfl rfl) fd48_2 hfd48_2 (.tmp rfl (fun _ => trivial))) rfl ?_
  refine Chain.cons (StepOK.load (.at rfl rfl) ty3 (.tmp rfl id)) rfl ?_
  refine Chain.cons (StepOK.lt (.at rfl rfl) (.tmp rfl id) (.int (by decide))) rfl ?_
  refine Chain.cons (StepOK.pickOr .none (.tmp rfl (fun _ => trivial)) (.tmp rfl id)) rfl ?_
  refine Chain.cons (StepOK.move .none (.tmp rfl (fun _ => trivial))) rfl ?_
  refine Chain.cons (StepOK.fieldAddr (.at rfl rfl) fd48_2 hfd48_2 (.tmp rfl (fun _ => trivial))) rfl ?_
  refine Chain.cons (StepOK.load (.at rfl rfl) ty3 (.tmp rfl id)) rfl ?_
  refine Chain.cons (StepOK.gt (.at rfl rfl) (.tmp rfl id) (.int (by decide))) rfl ?_
  refine Chain.cons (StepOK.pickOr .none (.tmp rfl (fun _ => trivial)) (.tmp rfl id)) rfl ?_
  refine Chain.cons (StepOK.move .none (.tmp rfl (fun _ => trivial))) rfl ?_
  refine Chain.cons (StepOK.fieldAddr (.at rfl rfl) fd48_3 hfd48_3 (.tmp rfl (fun _ => trivial))) rfl ?_
  refine Chain.cons (StepOK.load (.at rfl rfl) ty3 (.tmp rfl id)) rfl ?_
  refine Chain.cons (StepOK.lt (.at rfl rfl) (.tmp rfl id) (.int (by decide))) rfl ?_
  refine Chain.cons (StepOK.pickOr .none (.tmp rfl (fun _ => trivial)) (.tmp rfl id)) rfl ?_
  refine Chain.cons (StepOK.move .none (.tmp rfl (fun _ => trivial))) rfl ?_
  refine Chain.cons (StepOK.fieldAddr (.at rfl rfl) fd48_3 hfd48_3 (.tmp rfl (fun _ => trivial))) rfl ?_
  refine Chain.cons (StepOK.load (.at rfl rfl) ty3 (.tmp rfl id)) rfl ?_
  refine Chain.cons (StepOK.gt (.at rfl rfl) (.tmp rfl id) (.int (by decide))) rfl ?_
  refine Chain.cons (StepOK.pickOr .none (.tmp rfl (fun _ => trivial)) (.tmp rfl id)) rfl ?_
  refine Chain.nil ?_
  refine Ends.then ?_
  refine Cod.weaken (.cons (t := 30) rfl Sub.nil) SubB.nil ?_
  refine Cod.cond (t := 30) rfl trivial (fun hb1 => ?_) (fun hb1 => ?_)
  · try simp only [decide_eq_true_eq, decide_eq_false_iff_not, Bool.and_eq_true, Bool.or_eq_true, Bool.not_eq_true', Bool.not_eq_false', Bool.and_eq_false_iff, Bool.or_eq_false_iff, Int.not_lt, Int.not_le, Bool.true_eq_false, Bool.false_eq_true, true_and, and_true] at hb1
    refine Cod.seq ?_
    refine Cod.region [] mixed (by kernel_rfl) ?_
    refine Chain.cons (StepOK.assign .none (.int (by decide))) rfl ?_
    refine Chain.nil ?_
    refine Ends.then ?_
    refine Cod.weaken (.cons (t := 2) rfl Sub.nil) SubB.nil ?_
    refine Cod.ret ?_
    refine Ends.thenRet ?_
    refine Ends.ret1 (.inl rfl) Try.results33 (ResOK.tmp rfl trivial ?_)
    refine Imp.eq ?_; simp_all [bxErr]
  · try simp only [decide_eq_true_eq, decide_eq_false_iff_not, Bool.and_eq_true, Bool.or_eq_true, Bool.not_eq_true', Bool.not_eq_false', Bool.and_eq_false_iff, Bool.or_eq_false_iff, Int.not_lt, Int.not_le, Bool.true_eq_false, Bool.false_eq_true, true_and, and_true] at hb1
    refine Cod.skip ?_
    refine Ends.then ?_
    refine Cod.weaken Sub.nil SubB.nil ?_
    refine Cod.seq ?_
    refine Cod.region [] mixed (by kernel_rfl) ?_
    refine Chain.cons (StepOK.assign .none (.int (by decide))) rfl ?_
    refine Chain.nil ?_
    refine Ends.then ?_
    refine Cod.weaken (.cons (t := 2) rfl Sub.nil) SubB.nil ?_
    refine Cod.ret ?_
    refine Ends.ret1 (.inl rfl) Try.results33 (ResOK.tmp rfl trivial ?_)
    refine Imp.eq ?_; simp_all [bxErr]

/-- drawref1.BoxError -/
theorem BoxError_spec (b : Bx) : FSpec Try.prog 29 [rep b] (rep (bxErr b)) := by
  refine FSpec.intro (n := 22) fnok29 Try.func29 rfl Try.ntmps29 rfl (fun w0 Mf => ?_)
  refine Cod.seq ?_
  refine Cod.region [] mixed (by kernel_rfl) ?_
  refine Chain.cons (StepOK.box .none (.tmp rfl (fun _ => trivial))) rfl ?_
  refine Chain.cons (StepOK.assign .none (.int (by decide))) rfl ?_
  refine Chain.nil ?_
  refine Ends.then ?_
  refine Cod.weaken (.cons (t := 1) rfl Sub.nil) SubB.nil ?_
  refine Cod.seq ?_
  refine Cod.region [] mixed (by kernel_rfl) ?_
  refine Chain.cons (StepOK.fieldAddr .none fd48_0 hfd48_0 (.tmp rfl (fun _ => trivial))) rfl ?_
  refine Chain.cons (StepOK.load .none ty3 (.tmp rfl (fun _ => trivial))) rfl ?_
  refine Chain.cons (StepOK.fieldAddr .none fd48_1 hfd48_1 (.tmp rfl (fun _ => trivial))) rfl ?_
  refine Chain.cons (StepOK.load .none ty3 (.tmp rfl (fun _ => trivial))) rfl ?_
  refine Chain.cons (StepOK.build (y := (⟨_, _⟩ : Pt)) .none bu23 (.cons (.tmp rfl (fun _ => trivial)) (.cons (.tmp rfl (fun _ => trivial)) .nil)) rfl (fun M w vs h => by obtain ⟨rfl, hi⟩ := All2.ints [_, _] vs h; exact ⟨_, rfl, rep_pt_cells (p := ⟨_, _⟩) (hi _ (.head _)) (hi _ (.tail _ (.head _)))⟩)) rfl ?_
  refine Chain.cons (StepOK.call .none (PointError_spec _) (.cons (.tmp rfl (fun _ => trivial)) .nil)) rfl ?_
  refine Chain.cons (StepOK.fieldAddr .none fd48_2 hfd48_2 (.tmp rfl (fun _ => trivial))) rfl ?_
  refine Chain.cons (StepOK.load .none ty3 (.tmp rfl (fun _ => trivial))) rfl ?_
  refine Chain.cons (StepOK.call .none (In_spec _ _ _) (.cons (.tmp rfl (fun _ => trivial)) (.cons (.int (by decide)) (.cons (.int (by decide)) .nil)))) rfl ?_
  refine Chain.cons (StepOK.not .none (.tmp rfl (fun _ => trivial))) rfl ?_
  refine Chain.cons (StepOK.move .none (.tmp rfl (fun _ => trivial))) rfl ?_
  refine Chain.cons (StepOK.fieldAddr (.at rfl rfl) fd48_3 hfd48_3 (.tmp rfl (fun _ => trivial))) rfl ?_
  refine Chain.cons (StepOK.load (.at rfl rfl) ty3 (.tmp rfl id)) rfl ?_
  refine Chain.cons (StepOK.call (.at rfl rfl) (In_spec _ _ _) (.cons (.tmp rfl id) (.cons (.int (by decide)) (.cons (.int (by decide)) .nil)))) rfl ?_
  refine Chain.cons (StepOK.not (.at rfl rfl) (.tmp rfl id)) rfl ?_
  refine Chain.cons (StepOK.pickOr .none (.tmp rfl (fun _ => trivial)) (.tmp rfl id)) rfl ?_
  refine Chain.cons (StepOK.call .none (When_spec _ _) (.cons (.tmp rfl (fun _ => trivial)) (.cons (.int (by decide)) .nil))) rfl ?_
  refine Chain.cons (StepOK.buildSlice (xs := [_, _]) .none sl94 ty24 hz24 (.cons (.tmp rfl (fun _ => trivial)) (.cons (.tmp rfl (fun _ => trivial)) .nil)) rfl (by decide)) rfl ?_
  refine Chain.cons (StepOK.call .none (First_spec _) (.cons (.tmp rfl (fun _ => trivial)) .nil)) rfl ?_
  refine Chain.cons (StepOK.assign .none (.tmp rfl (fun _ => trivial))) rfl ?_
  refine Chain.nil ?_
  refine Ends.then ?_
  refine Cod.weaken (.cons (t := 2) rfl Sub.nil) SubB.nil ?_
  refine Cod.ret ?_
  refine Ends.ret1 (.inl rfl) Try.results29 (ResOK.tmp rfl trivial ?_)
  exact Imp.eq (bxErr_ref b)

/-- geom.boxes -/
theorem boxes_spec (l : List Bx) : FSpec Try.prog 88 [rep l] (rep (bxsErr l)) := by
  refine FSpec.intro (n := 18) fnok88 Try.func88 rfl Try.ntmps88 rfl (fun w0 Mf => ?_)
  refine Cod.fact (t := 0) rfl trivial rep_len (fun hlen0 => ?_)
  refine Cod.seq ?_
  refine Cod.region [] mixed (by kernel_rfl) ?_
  refine Chain.cons (StepOK.assign .none (.int (by decide))) rfl ?_
  refine Chain.nil ?_
  refine Ends.then ?_
  refine Cod.weaken (.cons (t := 0) rfl Sub.nil) SubB.nil ?_
  refine Cod.seq ?_
  refine Cod.seq ?_
  refine Cod.region [] mixed (by kernel_rfl) ?_
  refine Chain.cons (StepOK.move .none (.tmp rfl (fun _ => trivial))) rfl ?_
  refine Chain.cons (StepOK.len .none sl49 (.tmp rfl (fun _ => trivial))) rfl ?_
  refine Chain.cons (StepOK.move .none (.int (by decide))) rfl ?_
  refine Chain.nil ?_
  refine Ends.then ?_
  refine Cod.weaken (.cons (t := 6) rfl (.cons (t := 7) rfl (.cons (t := 8) rfl Sub.nil))) SubB.nil ?_
  refine Cod.block ?_
  refine Cod.loopK (ι := Nat) (fun i => [(8, ⟨True, rep ((i : Nat) : Int)⟩)]) (fun i => []) (fun i => l.length - i) (0) (fun i => i ≤ l.length ∧ bxsErr (l.take i) = 0) (⟨Nat.zero_le _, rfl⟩) (.cons (t := 8) (by rfl) Sub.nil) SubB.nil (.cons (t := 6) (by rfl) (.cons (t := 7) (by rfl) Sub.nil)) SubB.nil (fun i hi => ?_)
  refine Cod.seq ?_
  refine Cod.region [] mixed (by kernel_rfl) ?_
  refine Chain.cons (StepOK.lt .none (.tmp rfl (fun _ => trivial)) (.tmp rfl (fun _ => trivial))) rfl ?_
  refine Chain.nil ?_
  refine Ends.then ?_
  refine Cod.weaken (.cons (t := 6) rfl (.cons (t := 7) rfl (.cons (t := 8) rfl (.cons (t := 9) rfl Sub.nil)))) SubB.nil ?_
  refine Cod.seq ?_
  refine Cod.cond (t := 9) rfl trivial (fun hb1 => ?_) (fun hb1 => ?_)
  · try simp only [decide_eq_true_eq, decide_eq_false_iff_not, Bool.and_eq_true, Bool.or_eq_true, Bool.not_eq_true', Bool.not_eq_false', Bool.and_eq_false_iff, Bool.or_eq_false_iff, Int.not_lt, Int.not_le, Bool.true_eq_false, Bool.false_eq_true, true_and, and_true] at hb1
    refine Cod.skip ?_
    refine Ends.then ?_
    refine Cod.weaken (.cons (t := 6) rfl (.cons (t := 7) rfl (.cons (t := 8) rfl Sub.nil))) SubB.nil ?_
    refine Cod.seq ?_
    refine Cod.block ?_
    refine Cod.seq ?_
    refine Cod.region [([], none), ([], none), ([], some 4), ([4], some 4)] mixed (by kernel_rfl) ?_
    refine Chain.consA (StepOK.indexAddr .none sl49 ty48 (.tmp rfl (fun _ => trivial)) (.tmp rfl (fun _ => trivial)) (by intro _; omega)) rfl ?_
    refine Chain.consA (StepOK.load .none ty48 (.tmp rfl (fun _ => trivial))) rfl ?_
    refine Chain.alloc zo48 rfl rfl ?_
    refine Chain.store ty48 rfl (.tmp rfl (fun _ => trivial)) ?_
    refine Chain.nil ?_
    refine Ends.then ?_
    refine Cod.weaken (.cons (t := 6) rfl (.cons (t := 7) rfl (.cons (t := 8) rfl Sub.nil))) (.cons (t := 4) rfl SubB.nil) ?_
    refine Cod.seq ?_
    refine Cod.region [([4], none), ([], none), ([], none)] mixed (by kernel_rfl) ?_
    refine Chain.consA (StepOK.loadOwn .none ty48 rfl rfl) rfl ?_
    refine Chain.consA (StepOK.call .none (CheckBox_spec _) (.cons (.tmp rfl (fun _ => trivial)) .nil)) rfl ?_
    refine Chain.consA (StepOK.assign .none (.tmp rfl (fun _ => trivial))) rfl ?_
    refine Chain.nil ?_
    refine Ends.then ?_
    refine Cod.weaken (.cons (t := 5) rfl (.cons (t := 6) rfl (.cons (t := 7) rfl (.cons (t := 8) rfl Sub.nil)))) SubB.nil ?_
    refine Cod.seq ?_
    refine Cod.region [] mixed (by kernel_rfl) ?_
    refine Chain.cons (StepOK.move .none (.tmp rfl (fun _ => trivial))) rfl ?_
    refine Chain.cons (StepOK.neI .none (.tmp rfl (fun _ => trivial)) (.int (by decide))) rfl ?_
    refine Chain.nil ?_
    refine Ends.then ?_
    refine Cod.weaken (.cons (t := 5) rfl (.cons (t := 6) rfl (.cons (t := 7) rfl (.cons (t := 8) rfl (.cons (t := 15) rfl Sub.nil))))) SubB.nil ?_
    refine Cod.cond (t := 15) rfl trivial (fun hb2 => ?_) (fun hb2 => ?_)
    · try simp only [decide_eq_true_eq, decide_eq_false_iff_not, Bool.and_eq_true, Bool.or_eq_true, Bool.not_eq_true', Bool.not_eq_false', Bool.and_eq_false_iff, Bool.or_eq_false_iff, Int.not_lt, Int.not_le, Bool.true_eq_false, Bool.false_eq_true, true_and, and_true] at hb2
      refine Cod.seq ?_
      refine Cod.region [] mixed (by kernel_rfl) ?_
      refine Chain.cons (StepOK.move .none (.tmp rfl (fun _ => trivial))) rfl ?_
      refine Chain.cons (StepOK.assign .none (.tmp rfl (fun _ => trivial))) rfl ?_
      refine Chain.nil ?_
      refine Ends.then ?_
      refine Cod.weaken (.cons (t := 2) rfl Sub.nil) SubB.nil ?_
      refine Cod.ret ?_
      refine Ends.blkRet ?_
      refine Ends.thenRet ?_
      refine Ends.thenRet ?_
      refine Ends.blkRet ?_
      refine Ends.thenRet ?_
      refine Ends.ret1 (.inl rfl) Try.results88 (ResOK.tmp rfl trivial ?_)
      exact Imp.eq (bxsErr_found hi.2 (by omega) (by assumption)).symm
    · try simp only [decide_eq_true_eq, decide_eq_false_iff_not, Bool.and_eq_true, Bool.or_eq_true, Bool.not_eq_true', Bool.not_eq_false', Bool.and_eq_false_iff, Bool.or_eq_false_iff, Int.not_lt, Int.not_le, Bool.true_eq_false, Bool.false_eq_true, true_and, and_true] at hb2
      refine Cod.skip ?_
      refine Ends.blkNormal ?_
      refine Ends.then ?_
      refine Cod.weaken (.cons (t := 6) rfl (.cons (t := 7) rfl (.cons (t := 8) rfl Sub.nil))) SubB.nil ?_
      refine Cod.region [] mixed (by kernel_rfl) ?_
      refine Chain.cons (StepOK.add .none (.tmp rfl (fun _ => trivial)) (.int (by decide)) (by intro _ h1 h2; unfold InI at *; omega)) rfl ?_
      refine Chain.cons (StepOK.move .none (.tmp rfl (fun _ => trivial))) rfl ?_
      refine Chain.nil ?_
      refine Ends.againK (i + 1) ?_ (.cons (t := 8) (look_eq (by rfl) ?_) (.cons (t := 6) (by rfl) (.cons (t := 7) (by rfl) Sub.nil))) SubB.nil
      all_goals (first | exact ⟨by omega, by omega, bxsErr_next hi.2 (by omega) (by assumption)⟩ | omega | rfl)
  · try simp only [decide_eq_true_eq, decide_eq_false_iff_not, Bool.and_eq_true, Bool.or_eq_true, Bool.not_eq_true', Bool.not_eq_false', Bool.and_eq_false_iff, Bool.or_eq_false_iff, Int.not_lt, Int.not_le, Bool.true_eq_false, Bool.false_eq_true, true_and, and_true] at hb1
    refine Cod.exit ?_
    refine Ends.thenExit ?_
    refine Ends.thenExit ?_
    refine Ends.blkExit ?_
    refine Ends.then ?_
    refine Cod.weaken Sub.nil SubB.nil ?_
    refine Cod.seq ?_
    refine Cod.region [] mixed (by kernel_rfl) ?_
    refine Chain.cons (StepOK.assign .none (.int (by decide))) rfl ?_
    refine Chain.nil ?_
    refine Ends.then ?_
    refine Cod.weaken (.cons (t := 2) rfl Sub.nil) SubB.nil ?_
    refine Cod.ret ?_
    refine Ends.ret1 (.inl rfl) Try.results88 (ResOK.tmp rfl trivial ?_)
    exact Imp.eq (bxsErr_none hi (by omega)).symm

/-- drawref1.BoxesError -/
theorem BoxesError_spec (l : List Bx) : FSpec Try.prog 31 [rep l] (rep (listE l)) := by
  refine FSpec.intro (n := 21) fnok31 Try.func31 rfl Try.ntmps31 rfl (fun w0 Mf => ?_)
  refine Cod.fact (t := 0) rfl trivial rep_len (fun hlen0 => ?_)
  refine Cod.seq ?_
  refine Cod.region [] mixed (by kernel_rfl) ?_
  refine Chain.cons (StepOK.assign .none (.int (by decide))) rfl ?_
  refine Chain.nil ?_
  refine Ends.then ?_
  refine Cod.weaken (.cons (t := 0) rfl Sub.nil) SubB.nil ?_
  refine Cod.seq ?_
  refine Cod.seq ?_
  refine Cod.region [] mixed (by kernel_rfl) ?_
  refine Chain.cons (StepOK.move .none (.tmp rfl (fun _ => trivial))) rfl ?_
  refine Chain.cons (StepOK.len .none sl49 (.tmp rfl (fun _ => trivial))) rfl ?_
  refine Chain.cons (StepOK.gt .none (.tmp rfl (fun _ => trivial)) (.int (by decide))) rfl ?_
  refine Chain.nil ?_
  refine Ends.then ?_
  refine Cod.weaken (.cons (t := 0) rfl (.cons (t := 8) rfl Sub.nil)) SubB.nil ?_
  refine Cod.cond (t := 8) rfl trivial (fun hb1 => ?_) (fun hb1 => ?_)
  · try simp only [decide_eq_true_eq, decide_eq_false_iff_not, Bool.and_eq_true, Bool.or_eq_true, Bool.not_eq_true', Bool.not_eq_false', Bool.and_eq_false_iff, Bool.or_eq_false_iff, Int.not_lt, Int.not_le, Bool.true_eq_false, Bool.false_eq_true, true_and, and_true] at hb1
    refine Cod.seq ?_
    refine Cod.region [] mixed (by kernel_rfl) ?_
    refine Chain.cons (StepOK.assign .none (.int (by decide))) rfl ?_
    refine Chain.nil ?_
    refine Ends.then ?_
    refine Cod.weaken (.cons (t := 2) rfl Sub.nil) SubB.nil ?_
    refine Cod.ret ?_
    refine Ends.thenRet ?_
    refine Ends.ret1 (.inl rfl) Try.results31 (ResOK.tmp rfl trivial ?_)
    exact Imp.eq (by unfold listE; rw [if_pos (by omega)])
  · try simp only [decide_eq_true_eq, decide_eq_false_iff_not, Bool.and_eq_true, Bool.or_eq_true, Bool.not_eq_true', Bool.not_eq_false', Bool.and_eq_false_iff, Bool.or_eq_false_iff, Int.not_lt, Int.not_le, Bool.true_eq_false, Bool.false_eq_true, true_and, and_true] at hb1
    refine Cod.skip ?_
    refine Ends.then ?_
    refine Cod.weaken (.cons (t := 0) rfl Sub.nil) SubB.nil ?_
    refine Cod.seq ?_
    refine Cod.seq ?_
    refine Cod.region [] mixed (by kernel_rfl) ?_
    refine Chain.cons (StepOK.move .none (.tmp rfl (fun _ => trivial))) rfl ?_
    refine Chain.cons (StepOK.len .none sl49 (.tmp rfl (fun _ => trivial))) rfl ?_
    refine Chain.cons (StepOK.move .none (.int (by decide))) rfl ?_
    refine Chain.nil ?_
    refine Ends.then ?_
    refine Cod.weaken (.cons (t := 9) rfl (.cons (t := 10) rfl (.cons (t := 11) rfl Sub.nil))) SubB.nil ?_
    refine Cod.block ?_
    refine Cod.loopK (ι := Nat) (fun i => [(11, ⟨True, rep ((i : Nat) : Int)⟩)]) (fun i => []) (fun i => l.length - i) (0) (fun i => i ≤ l.length ∧ bxsErr (l.take i) = 0) (⟨Nat.zero_le _, rfl⟩) (.cons (t := 11) (by rfl) Sub.nil) SubB.nil (.cons (t := 9) (by rfl) (.cons (t := 10) (by rfl) Sub.nil)) SubB.nil (fun i hi => ?_)
    refine Cod.seq ?_
    refine Cod.region [] mixed (by kernel_rfl) ?_
    refine Chain.cons (StepOK.lt .none (.tmp rfl (fun _ => trivial)) (.tmp rfl (fun _ => trivial))) rfl ?_
    refine Chain.nil ?_
    refine Ends.then ?_
    refine Cod.weaken (.cons (t := 9) rfl (.cons (t := 10) rfl (.cons (t := 11) rfl (.cons (t := 12) rfl Sub.nil)))) SubB.nil ?_
    refine Cod.seq ?_
    refine Cod.cond (t := 12) rfl trivial (fun hb2 => ?_) (fun hb2 => ?_)
    · try simp only [decide_eq_true_eq, decide_eq_false_iff_not, Bool.and_eq_true, Bool.or_eq_true, Bool.not_eq_true', Bool.not_eq_false', Bool.and_eq_false_iff, Bool.or_eq_false_iff, Int.not_lt, Int.not_le, Bool.true_eq_false, Bool.false_eq_true, true_and, and_true] at hb2
      refine Cod.skip ?_
      refine Ends.then ?_
      refine Cod.weaken (.cons (t := 9) rfl (.cons (t := 10) rfl (.cons (t := 11) rfl Sub.nil))) SubB.nil ?_
      refine Cod.seq ?_
      refine Cod.block ?_
      refine Cod.seq ?_
      refine Cod.region [([], none), ([], none), ([], some 4), ([4], some 4)] mixed (by kernel_rfl) ?_
      refine Chain.consA (StepOK.indexAddr .none sl49 ty48 (.tmp rfl (fun _ => trivial)) (.tmp rfl (fun _ => trivial)) (by intro _; omega)) rfl ?_
      refine Chain.consA (StepOK.load .none ty48 (.tmp rfl (fun _ => trivial))) rfl ?_
      refine Chain.alloc zo48 rfl rfl ?_
      refine Chain.store ty48 rfl (.tmp rfl (fun _ => trivial)) ?_
      refine Chain.nil ?_
      refine Ends.then ?_
      refine Cod.weaken (.cons (t := 9) rfl (.cons (t := 10) rfl (.cons (t := 11) rfl Sub.nil))) (.cons (t := 4) rfl SubB.nil) ?_
      refine Cod.seq ?_
      refine Cod.region [([4], none), ([], none), ([], none)] mixed (by kernel_rfl) ?_
      refine Chain.consA (StepOK.loadOwn .none ty48 rfl rfl) rfl ?_
      refine Chain.consA (StepOK.call .none (BoxError_spec _) (.cons (.tmp rfl (fun _ => trivial)) .nil)) rfl ?_
      refine Chain.consA (StepOK.assign .none (.tmp rfl (fun _ => trivial))) rfl ?_
      refine Chain.nil ?_
      refine Ends.then ?_
      refine Cod.weaken (.cons (t := 5) rfl (.cons (t := 9) rfl (.cons (t := 10) rfl (.cons (t := 11) rfl Sub.nil)))) SubB.nil ?_
      refine Cod.seq ?_
      refine Cod.region [] mixed (by kernel_rfl) ?_
      refine Chain.cons (StepOK.move .none (.tmp rfl (fun _ => trivial))) rfl ?_
      refine Chain.cons (StepOK.neI .none (.tmp rfl (fun _ => trivial)) (.int (by decide))) rfl ?_
      refine Chain.nil ?_
      refine Ends.then ?_
      refine Cod.weaken (.cons (t := 5) rfl (.cons (t := 9) rfl (.cons (t := 10) rfl (.cons (t := 11) rfl (.cons (t := 18) rfl Sub.nil))))) SubB.nil ?_
      refine Cod.cond (t := 18) rfl trivial (fun hb3 => ?_) (fun hb3 => ?_)
      · try simp only [decide_eq_true_eq, decide_eq_false_iff_not, Bool.and_eq_true, Bool.or_eq_true, Bool.not_eq_true', Bool.not_eq_false', Bool.and_eq_false_iff, Bool.or_eq_false_iff, Int.not_lt, Int.not_le, Bool.true_eq_false, Bool.false_eq_true, true_and, and_true] at hb3
        refine Cod.seq ?_
        refine Cod.region [] mixed (by kernel_rfl) ?_
        refine Chain.cons (StepOK.move .none (.tmp rfl (fun _ => trivial))) rfl ?_
        refine Chain.cons (StepOK.assign .none (.tmp rfl (fun _ => trivial))) rfl ?_
        refine Chain.nil ?_
        refine Ends.then ?_
        refine Cod.weaken (.cons (t := 2) rfl Sub.nil) SubB.nil ?_
        refine Cod.ret ?_
        refine Ends.blkRet ?_
        refine Ends.thenRet ?_
        refine Ends.thenRet ?_
        refine Ends.blkRet ?_
        refine Ends.thenRet ?_
        refine Ends.ret1 (.inl rfl) Try.results31 (ResOK.tmp rfl trivial ?_)
        exact Imp.eq (by unfold listE; rw [if_neg (by omega)]; exact (bxsErr_found hi.2 (by omega) (by assumption)).symm)
      · try simp only [decide_eq_true_eq, decide_eq_false_iff_not, Bool.and_eq_true, Bool.or_eq_true, Bool.not_eq_true', Bool.not_eq_false', Bool.and_eq_false_iff, Bool.or_eq_false_iff, Int.not_lt, Int.not_le, Bool.true_eq_false, Bool.false_eq_true, true_and, and_true] at hb3
        refine Cod.skip ?_
        refine Ends.blkNormal ?_
        refine Ends.then ?_
        refine Cod.weaken (.cons (t := 9) rfl (.cons (t := 10) rfl (.cons (t := 11) rfl Sub.nil))) SubB.nil ?_
        refine Cod.region [] mixed (by kernel_rfl) ?_
        refine Chain.cons (StepOK.add .none (.tmp rfl (fun _ => trivial)) (.int (by decide)) (by intro _ h1 h2; unfold InI at *; omega)) rfl ?_
        refine Chain.cons (StepOK.move .none (.tmp rfl (fun _ => trivial))) rfl ?_
        refine Chain.nil ?_
        refine Ends.againK (i + 1) ?_ (.cons (t := 11) (look_eq (by rfl) ?_) (.cons (t := 9) (by rfl) (.cons (t := 10) (by rfl) Sub.nil))) SubB.nil
        all_goals (first | exact ⟨by omega, by omega, bxsErr_next hi.2 (by omega) (by assumption)⟩ | omega | rfl)
    · try simp only [decide_eq_true_eq, decide_eq_false_iff_not, Bool.and_eq_true, Bool.or_eq_true, Bool.not_eq_true', Bool.not_eq_false', Bool.and_eq_false_iff, Bool.or_eq_false_iff, Int.not_lt, Int.not_le, Bool.true_eq_false, Bool.false_eq_true, true_and, and_true] at hb2
      refine Cod.exit ?_
      refine Ends.thenExit ?_
      refine Ends.thenExit ?_
      refine Ends.blkExit ?_
      refine Ends.then ?_
      refine Cod.weaken Sub.nil SubB.nil ?_
      refine Cod.seq ?_
      refine Cod.region [] mixed (by kernel_rfl) ?_
      refine Chain.cons (StepOK.assign .none (.int (by decide))) rfl ?_
      refine Chain.nil ?_
      refine Ends.then ?_
      refine Cod.weaken (.cons (t := 2) rfl Sub.nil) SubB.nil ?_
      refine Cod.ret ?_
      refine Ends.ret1 (.inl rfl) Try.results31 (ResOK.tmp rfl trivial ?_)
      exact Imp.eq (by unfold listE; rw [if_neg (by omega)]; exact (bxsErr_none hi (by omega)).symm)

/-- geom.Hull -/
theorem Hull_spec (l : List Bx) : FSpec Try.prog 30 [rep l] (tup [rep (if listE l = 0 then hullV l else ⟨0, 0, 0, 0⟩), rep (if listE l = 0 then hullE l else listE l)]) := by
  refine FSpec.intro (n := 83) fnok30 Try.func30 rfl Try.ntmps30 rfl (fun w0 Mf => ?_)
  refine Cod.fact (t := 0) rfl trivial rep_len (fun hlen0 => ?_)
  refine Cod.seq ?_
  refine Cod.region [([], some 2), ([], none)] mixed (by kernel_rfl) ?_
  refine Chain.alloc zo48 rfl rfl ?_
  refine Chain.consA (StepOK.assign .none (.int (by decide))) rfl ?_
  refine Chain.nil ?_
  refine Ends.then ?_
  refine Cod.weaken (.cons (t := 0) rfl Sub.nil) (.cons (t := 2) rfl SubB.nil) ?_
  refine Cod.seq ?_
  refine Cod.seq ?_
  refine Cod.region [] mixed (by kernel_rfl) ?_
  refine Chain.cons (StepOK.move .none (.tmp rfl (fun _ => trivial))) rfl ?_
  refine Chain.cons (StepOK.len .none sl49 (.tmp rfl (fun _ => trivial))) rfl ?_
  refine Chain.cons (StepOK.gt .none (.tmp rfl (fun _ => trivial)) (.int (by decide))) rfl ?_
  refine Chain.nil ?_
  refine Ends.then ?_
  refine Cod.weaken (.cons (t := 0) rfl (.cons (t := 12) rfl Sub.nil)) (.cons (t := 2) rfl SubB.nil) ?_
  refine Cod.cond (t := 12) rfl trivial (fun hb1 => ?_) (fun hb1 => ?_)
  · try simp only [decide_eq_true_eq, decide_eq_false_iff_not, Bool.and_eq_true, Bool.or_eq_true, Bool.not_eq_true', Bool.not_eq_false', Bool.and_eq_false_iff, Bool.or_eq_false_iff, Int.not_lt, Int.not_le, Bool.true_eq_false, Bool.false_eq_true, true_and, and_true] at hb1
    refine Cod.seq ?_
    refine Cod.region [([], none), ([2], some 2), ([], none)] mixed (by kernel_rfl) ?_
    refine Chain.consA (StepOK.build (y := (⟨0, 0, 0, 0⟩ : Bx)) .none bu48 .nil rfl (fun M w vs h => by match vs, h with | [], _ => exact ⟨_, rfl, rep_bx_cells (by decide) (by decide) (by decide) (by decide)⟩)) rfl ?_
    refine Chain.store ty48 rfl (.tmp rfl (fun _ => trivial)) ?_
    refine Chain.consA (StepOK.assign .none (.int (by decide))) rfl ?_
    refine Chain.nil ?_
    refine Ends.then ?_
    refine Cod.weaken (.cons (t := 3) rfl Sub.nil) (.cons (t := 2) rfl SubB.nil) ?_
    refine Cod.ret ?_
    refine Ends.thenRet ?_
    refine Ends.ret2 (.inl rfl) Try.results30 (ResOK.cellB ty48 rfl ?_) (ResOK.tmp rfl trivial ?_)
    all_goals (refine Imp.eq ?_; have h1 : listE l = 4 := (by unfold listE; rw [if_pos (by omega)]); simp [h1])
  · try simp only [decide_eq_true_eq, decide_eq_false_iff_not, Bool.and_eq_true, Bool.or_eq_true, Bool.not_eq_true', Bool.not_eq_false', Bool.and_eq_false_iff, Bool.or_eq_false_iff, Int.not_lt, Int.not_le, Bool.true_eq_false, Bool.false_eq_true, true_and, and_true] at hb1
    have hlen : ¬ 1000 < l.length := by omega
    refine Cod.skip ?_
    refine Ends.then ?_
    refine Cod.weaken (.cons (t := 0) rfl Sub.nil) (.cons (t := 2) rfl SubB.nil) ?_
    refine Cod.seq ?_
    refine Cod.seq ?_
    refine Cod.region [] mixed (by kernel_rfl) ?_
    refine Chain.cons (StepOK.move .none (.tmp rfl (fun _ => trivial))) rfl ?_
    refine Chain.cons (StepOK.call .none (boxes_spec _) (.cons (.tmp rfl (fun _ => trivial)) .nil)) rfl ?_
    refine Chain.cons (StepOK.assign .none (.tmp rfl (fun _ => trivial))) rfl ?_
    refine Chain.nil ?_
    refine Ends.then ?_
    refine Cod.weaken (.cons (t := 0) rfl (.cons (t := 4) rfl Sub.nil)) (.cons (t := 2) rfl SubB.nil) ?_
    refine Cod.seq ?_
    refine Cod.region [] mixed (by kernel_rfl) ?_
    refine Chain.cons (StepOK.move .none (.tmp rfl (fun _ => trivial))) rfl ?_
    refine Chain.cons (StepOK.neI .none (.tmp rfl (fun _ => trivial)) (.int (by decide))) rfl ?_
    refine Chain.nil ?_
    refine Ends.then ?_
    refine Cod.weaken (.cons (t := 0) rfl (.cons (t := 4) rfl (.cons (t := 17) rfl Sub.nil))) (.cons (t := 2) rfl SubB.nil) ?_
    refine Cod.cond (t := 17) rfl trivial (fun hb2 => ?_) (fun hb2 => ?_)
    · try simp only [decide_eq_true_eq, decide_eq_false_iff_not, Bool.and_eq_true, Bool.or_eq_true, Bool.not_eq_true', Bool.not_eq_false', Bool.and_eq_false_iff, Bool.or_eq_false_iff, Int.not_lt, Int.not_le, Bool.true_eq_false, Bool.false_eq_true, true_and, and_true] at hb2
      refine Cod.seq ?_
      refine Cod.region [([], none), ([], none), ([2], some 2), ([], none)] mixed (by kernel_rfl) ?_
      refine Chain.consA (StepOK.build (y := (⟨0, 0, 0, 0⟩ : Bx)) .none bu48 .nil rfl (fun M w vs h => by match vs, h with | [], _ => exact ⟨_, rfl, rep_bx_cells (by decide) (by decide) (by decide) (by decide)⟩)) rfl ?_
      refine Chain.consA (StepOK.move .none (.tmp rfl (fun _ => trivial))) rfl ?_
      refine Chain.store ty48 rfl (.tmp rfl (fun _ => trivial)) ?_
      refine Chain.consA (StepOK.assign .none (.tmp rfl (fun _ => trivial))) rfl ?_
      refine Chain.nil ?_
      refine Ends.then ?_
      refine Cod.weaken (.cons (t := 3) rfl Sub.nil) (.cons (t := 2) rfl SubB.nil) ?_
      refine Cod.ret ?_
      refine Ends.thenRet ?_
      refine Ends.ret2 (.inl rfl) Try.results30 (ResOK.cellB ty48 rfl ?_) (ResOK.tmp rfl trivial ?_)
      all_goals (refine Imp.eq ?_; have h1 : listE l = bxsErr l := (by unfold listE; rw [if_neg hlen]); simp [h1, hb2])
    · try simp only [decide_eq_true_eq, decide_eq_false_iff_not, Bool.and_eq_true, Bool.or_eq_true, Bool.not_eq_true', Bool.not_eq_false', Bool.and_eq_false_iff, Bool.or_eq_false_iff, Int.not_lt, Int.not_le, Bool.true_eq_false, Bool.false_eq_true, true_and, and_true] at hb2
      have hE : listE l = 0 := by unfold listE; rw [if_neg hlen]; exact hb2
      refine Cod.skip ?_
      refine Ends.then ?_
      refine Cod.weaken (.cons (t := 0) rfl Sub.nil) (.cons (t := 2) rfl SubB.nil) ?_
      refine Cod.seq ?_
      refine Cod.seq ?_
      refine Cod.region [] mixed (by kernel_rfl) ?_
      refine Chain.cons (StepOK.move .none (.tmp rfl (fun _ => trivial))) rfl ?_
      refine Chain.cons (StepOK.len .none sl49 (.tmp rfl (fun _ => trivial))) rfl ?_
      refine Chain.cons (StepOK.eqI .none (.tmp rfl (fun _ => trivial)) (.int (by decide))) rfl ?_
      refine Chain.nil ?_
      refine Ends.then ?_
      refine Cod.weaken (.cons (t := 0) rfl (.cons (t := 22) rfl Sub.nil)) (.cons (t := 2) rfl SubB.nil) ?_
      refine Cod.cond (t := 22) rfl trivial (fun hb3 => ?_) (fun hb3 => ?_)
      · try simp only [decide_eq_true_eq, decide_eq_false_iff_not, Bool.and_eq_true, Bool.or_eq_true, Bool.not_eq_true', Bool.not_eq_false', Bool.and_eq_false_iff, Bool.or_eq_false_iff, Int.not_lt, Int.not_le, Bool.true_eq_false, Bool.false_eq_true, true_and, and_true] at hb3
        refine Cod.seq ?_
        refine Cod.region [([], none), ([2], some 2), ([], none)] mixed (by kernel_rfl) ?_
        refine Chain.consA (StepOK.build (y := (⟨0, 0, 0, 0⟩ : Bx)) .none bu48 .nil rfl (fun M w vs h => by match vs, h with | [], _ => exact ⟨_, rfl, rep_bx_cells (by decide) (by decide) (by decide) (by decide)⟩)) rfl ?_
        refine Chain.store ty48 rfl (.tmp rfl (fun _ => trivial)) ?_
        refine Chain.consA (StepOK.assign .none (.int (by decide))) rfl ?_
        refine Chain.nil ?_
        refine Ends.then ?_
        refine Cod.weaken (.cons (t := 3) rfl Sub.nil) (.cons (t := 2) rfl SubB.nil) ?_
        refine Cod.ret ?_
        refine Ends.thenRet ?_
        refine Ends.ret2 (.inl rfl) Try.results30 (ResOK.cellB ty48 rfl ?_) (ResOK.tmp rfl trivial ?_)
        all_goals (refine Imp.eq ?_; have h1 : hullE l = 9 := (by unfold hullE; rw [if_pos (by omega)]); simp [hE, hullV, h1])
      · try simp only [decide_eq_true_eq, decide_eq_false_iff_not, Bool.and_eq_true, Bool.or_eq_true, Bool.not_eq_true', Bool.not_eq_false', Bool.and_eq_false_iff, Bool.or_eq_false_iff, Int.not_lt, Int.not_le, Bool.true_eq_false, Bool.false_eq_true, true_and, and_true] at hb3
        have hne : 0 < l.length := by omega
        refine Cod.skip ?_
        refine Ends.then ?_
        refine Cod.weaken (.cons (t := 0) rfl Sub.nil) (.cons (t := 2) rfl SubB.nil) ?_
        refine Cod.seq ?_
        refine Cod.region [([], none), ([], none), ([], none), ([], some 5), ([5], some 5)] mixed (by kernel_rfl) ?_
        refine Chain.consA (StepOK.move .none (.tmp rfl (fun _ => trivial))) rfl ?_
        refine Chain.consA (StepOK.indexAddr .none sl49 ty48 (.tmp rfl (fun _ => trivial)) (.int (by decide)) (by intro _; omega)) rfl ?_
        refine Chain.consA (StepOK.load .none ty48 (.tmp rfl (fun _ => trivial))) rfl ?_
        refine Chain.alloc zo48 rfl rfl ?_
        refine Chain.store ty48 rfl (.tmp rfl (fun _ => trivial)) ?_
        refine Chain.nil ?_
        refine Ends.then ?_
        refine Cod.weaken (.cons (t := 0) rfl Sub.nil) (.cons (t := 2) rfl (.cons (t := 5) rfl SubB.nil)) ?_
        refine Cod.seq ?_
        refine Cod.seq ?_
        refine Cod.region [] mixed (by kernel_rfl) ?_
        refine Chain.cons (StepOK.move .none (.tmp rfl (fun _ => trivial))) rfl ?_
        refine Chain.cons (StepOK.len .none sl49 (.tmp rfl (fun _ => trivial))) rfl ?_
        refine Chain.cons (StepOK.move .none (.int (by decide))) rfl ?_
        refine Chain.nil ?_
        refine Ends.then ?_
        refine Cod.weaken (.cons (t := 27) rfl (.cons (t := 28) rfl (.cons (t := 29) rfl Sub.nil))) (.cons (t := 2) rfl (.cons (t := 5) rfl SubB.nil)) ?_
        refine Cod.block ?_
        refine Cod.loopK (ι := Nat) (fun i => [(29, ⟨True, rep ((i : Nat) : Int)⟩)]) (fun i => [(5, some (cont 48 (hullAcc l i)))]) (fun i => l.length - i) (0) (fun i => i ≤ l.length) (Nat.zero_le _) (.cons (t := 29) (by rfl) Sub.nil) (.cons (t := 5) (by rfl) SubB.nil) (.cons (t := 27) (by rfl) (.cons (t := 28) (by rfl) Sub.nil)) (.cons (t := 2) rfl SubB.nil) (fun i hi => ?_)
        have hin := hullAcc_in hb2 hne i hi; unfold HullIn at hin
        refine Cod.seq ?_
        refine Cod.region [] mixed (by kernel_rfl) ?_
        refine Chain.cons (StepOK.lt .none (.tmp rfl (fun _ => trivial)) (.tmp rfl (fun _ => trivial))) rfl ?_
        refine Chain.nil ?_
        refine Ends.then ?_
        refine Cod.weaken (.cons (t := 27) rfl (.cons (t := 28) rfl (.cons (t := 29) rfl (.cons (t := 30) rfl Sub.nil)))) (.cons (t := 2) rfl (.cons (t := 5) rfl SubB.nil)) ?_
        refine Cod.seq ?_
        refine Cod.cond (t := 30) rfl trivial (fun hb4 => ?_) (fun hb4 => ?_)
        · try simp only [decide_eq_true_eq, decide_eq_false_iff_not, Bool.and_eq_true, Bool.or_eq_true, Bool.not_eq_true', Bool.not_eq_false', Bool.and_eq_false_iff, Bool.or_eq_false_iff, Int.not_lt, Int.not_le, Bool.true_eq_false, Bool.false_eq_true, true_and, and_true] at hb4
          have hbx := bxsErr_zero hb2 _ (gx_mem (l := l) (k := (i : Int)) (by omega) (by omega)); have hst := hullAcc_next (l := l) (i := i) (by omega); unfold BxIn at hbx
          refine Cod.skip ?_
          refine Ends.then ?_
          refine Cod.weaken (.cons (t := 27) rfl (.cons (t := 28) rfl (.cons (t := 29) rfl Sub.nil))) (.cons (t := 2) rfl (.cons (t := 5) rfl SubB.nil)) ?_
          refine Cod.seq ?_
          refine Cod.block ?_
          refine Cod.seq ?_
          refine Cod.region [([], none), ([], none), ([], some 7), ([7], some 7)] mixed (by kernel_rfl) ?_
          refine Chain.consA (StepOK.indexAddr .none sl49 ty48 (.tmp rfl (fun _ => trivial)) (.tmp rfl (fun _ => trivial)) (by intro _; omega)) rfl ?_
          refine Chain.consA (StepOK.load .none ty48 (.tmp rfl (fun _ => trivial))) rfl ?_
          refine Chain.alloc zo48 rfl rfl ?_
          refine Chain.store ty48 rfl (.tmp rfl (fun _ => trivial)) ?_
          refine Chain.nil ?_
          refine Ends.then ?_
          refine Cod.weaken (.cons (t := 27) rfl (.cons (t := 28) rfl (.cons (t := 29) rfl Sub.nil))) (.cons (t := 2) rfl (.cons (t := 5) rfl (.cons (t := 7) rfl SubB.nil))) ?_
          refine Cod.seq ?_
          refine Cod.openB (t := 5) rfl (fun m5 => ?_)
          refine Cod.openB (t := 7) rfl (fun m7 => ?_)
          refine Cod.region [([], none), ([5], none), ([], none), ([7], none), ([], none), ([], none), ([5], none), ([], none), ([7], none), ([], none), ([], none), ([], none)] mixed (by kernel_rfl) ?_
          refine Chain.consA (StepOK.fieldPtr .none fd48_0 (.tmp rfl (fun _ => trivial))) rfl ?_
          refine Chain.consA (StepOK.loadField (t := 5) .none ty3 rfl rfl (.tmp rfl (fun _ => trivial)) hfd48_0 rfl) rfl ?_
          refine Chain.consA (StepOK.fieldPtr .none fd48_0 (.tmp rfl (fun _ => trivial))) rfl ?_
          refine Chain.consA (StepOK.loadField (t := 7) .none ty3 rfl rfl (.tmp rfl (fun _ => trivial)) hfd48_0 rfl) rfl ?_
          refine Chain.consA (StepOK.min2 .none (.tmp rfl (fun _ => trivial)) (.tmp rfl (fun _ => trivial))) rfl ?_
          refine Chain.consA (StepOK.fieldPtr .none fd48_1 (.tmp rfl (fun _ => trivial))) rfl ?_
          refine Chain.consA (StepOK.loadField (t := 5) .none ty3 rfl rfl (.tmp rfl (fun _ => trivial)) hfd48_1 rfl) rfl ?_
          refine Chain.consA (StepOK.fieldPtr .none fd48_1 (.tmp rfl (fun _ => trivial))) rfl ?_
          refine Chain.consA (StepOK.loadField (t := 7) .none ty3 rfl rfl (.tmp rfl (fun _ => trivial)) hfd48_1 rfl) rfl ?_
          refine Chain.consA (StepOK.min2 .none (.tmp rfl (fun _ => trivial)) (.tmp rfl (fun _ => trivial))) rfl ?_
          refine Chain.consA (StepOK.assign .none (.tmp rfl (fun _ => trivial))) rfl ?_
          refine Chain.consA (StepOK.assign .none (.tmp rfl (fun _ => trivial))) rfl ?_
          refine Chain.nil ?_
          refine Ends.then ?_
          refine Cod.weaken (.cons (t := 5) rfl (.cons (t := 7) rfl (.cons (t := 8) rfl (.cons (t := 9) rfl (.cons (t := 27) rfl (.cons (t := 28) rfl (.cons (t := 29) rfl Sub.nil))))))) (.cons (t := 2) rfl (.cons (t := 5) rfl (.cons (t := 7) rfl SubB.nil))) ?_
          refine Cod.region [([], none), ([], none), ([], none), ([5], none), ([], none), ([5], none), ([], none), ([], none), ([7], none), ([], none), ([7], none), ([], none), ([], none), ([], none), ([], none), ([], none), ([5], none), ([], none), ([5], none), ([], none), ([], none), ([7], none), ([], none), ([7], none), ([], none), ([], none), ([], none), ([], none), ([], none), ([5], some 5)] mixed (by kernel_rfl) ?_
          refine Chain.consA (StepOK.move .none (.tmp rfl (fun _ => trivial))) rfl ?_
          refine Chain.consA (StepOK.move .none (.tmp rfl (fun _ => trivial))) rfl ?_
          refine Chain.consA (StepOK.fieldPtr .none fd48_0 (.tmp rfl (fun _ => trivial))) rfl ?_
          refine Chain.consA (StepOK.loadField (t := 5) .none ty3 rfl rfl (.tmp rfl (fun _ => trivial)) hfd48_0 rfl) rfl ?_
          refine Chain.consA (StepOK.fieldPtr .none fd48_2 (.tmp rfl (fun _ => trivial))) rfl ?_
          refine Chain.consA (StepOK.loadField (t := 5) .none ty3 rfl rfl (.tmp rfl (fun _ => trivial)) hfd48_2 rfl) rfl ?_
          refine Chain.consA (StepOK.add .none (.tmp rfl (fun _ => trivial)) (.tmp rfl (fun _ => trivial)) (by intro _ h1 h2; unfold InI at *; omega)) rfl ?_
          refine Chain.consA (StepOK.fieldPtr .none fd48_0 (.tmp rfl (fun _ => trivial))) rfl ?_
          refine Chain.consA (StepOK.loadField (t := 7) .none ty3 rfl rfl (.tmp rfl (fun _ => trivial)) hfd48_0 rfl) rfl ?_
          refine Chain.consA (StepOK.fieldPtr .none fd48_2 (.tmp rfl (fun _ => trivial))) rfl ?_
          refine Chain.consA (StepOK.loadField (t := 7) .none ty3 rfl rfl (.tmp rfl (fun _ => trivial)) hfd48_2 rfl) rfl ?_
          refine Chain.consA (StepOK.add .none (.tmp rfl (fun _ => trivial)) (.tmp rfl (fun _ => trivial)) (by intro _ h1 h2; unfold InI at *; omega)) rfl ?_
          refine Chain.consA (StepOK.max2 .none (.tmp rfl (fun _ => trivial)) (.tmp rfl (fun _ => trivial))) rfl ?_
          refine Chain.consA (StepOK.move .none (.tmp rfl (fun _ => trivial))) rfl ?_
          refine Chain.consA (StepOK.sub .none (.tmp rfl (fun _ => trivial)) (.tmp rfl (fun _ => trivial)) (by intro _ h1 h2; unfold InI at *; omega)) rfl ?_
          refine Chain.consA (StepOK.fieldPtr .none fd48_1 (.tmp rfl (fun _ => trivial))) rfl ?_
          refine Chain.consA (StepOK.loadField (t := 5) .none ty3 rfl rfl (.tmp rfl (fun _ => trivial)) hfd48_1 rfl) rfl ?_
          refine Chain.consA (StepOK.fieldPtr .none fd48_3 (.tmp rfl (fun _ => trivial))) rfl ?_
          refine Chain.consA (StepOK.loadField (t := 5) .none ty3 rfl rfl (.tmp rfl (fun _ => trivial)) hfd48_3 rfl) rfl ?_
          refine Chain.consA (StepOK.add .none (.tmp rfl (fun _ => trivial)) (.tmp rfl (fun _ => trivial)) (by intro _ h1 h2; unfold InI at *; omega)) rfl ?_
          refine Chain.consA (StepOK.fieldPtr .none fd48_1 (.tmp rfl (fun _ => trivial))) rfl ?_
          refine Chain.consA (StepOK.loadField (t := 7) .none ty3 rfl rfl (.tmp rfl (fun _ => trivial)) hfd48_1 rfl) rfl ?_
          refine Chain.consA (StepOK.fieldPtr .none fd48_3 (.tmp rfl (fun _ => trivial))) rfl ?_
          refine Chain.consA (StepOK.loadField (t := 7) .none ty3 rfl rfl (.tmp rfl (fun _ => trivial)) hfd48_3 rfl) rfl ?_
          refine Chain.consA (StepOK.add .none (.tmp rfl (fun _ => trivial)) (.tmp rfl (fun _ => trivial)) (by intro _ h1 h2; unfold InI at *; omega)) rfl ?_
          refine Chain.consA (StepOK.max2 .none (.tmp rfl (fun _ => trivial)) (.tmp rfl (fun _ => trivial))) rfl ?_
          refine Chain.consA (StepOK.move .none (.tmp rfl (fun _ => trivial))) rfl ?_
          refine Chain.consA (StepOK.sub .none (.tmp rfl (fun _ => trivial)) (.tmp rfl (fun _ => trivial)) (by intro _ h1 h2; unfold InI at *; omega)) rfl ?_
          refine Chain.consA (StepOK.build (y := (⟨_, _, _, _⟩ : Bx)) .none bu48 (.cons (.tmp rfl (fun _ => trivial)) (.cons (.tmp rfl (fun _ => trivial)) (.cons (.tmp rfl (fun _ => trivial)) (.cons (.tmp rfl (fun _ => trivial)) .nil)))) rfl (fun M w vs h => by obtain ⟨rfl, hi⟩ := All2.ints [_, _, _, _] vs h; exact ⟨_, rfl, rep_bx_cells (p := ⟨_, _, _, _⟩) (hi _ (.head _)) (hi _ (.tail _ (.head _))) (hi _ (.tail _ (.tail _ (.head _)))) (hi _ (.tail _ (.tail _ (.tail _ (.head _)))))⟩)) rfl ?_
          refine Chain.store ty48 rfl (.tmp rfl (fun _ => trivial)) ?_
          refine Chain.nil ?_
          refine Ends.blkNormal ?_
          refine Ends.then ?_
          refine Cod.weaken (.cons (t := 5) rfl (.cons (t := 27) rfl (.cons (t := 28) rfl (.cons (t := 29) rfl Sub.nil)))) (.cons (t := 2) rfl (.cons (t := 5) rfl SubB.nil)) ?_
          refine Cod.region [] mixed (by kernel_rfl) ?_
          refine Chain.cons (StepOK.add .none (.tmp rfl (fun _ => trivial)) (.int (by decide)) (by intro _ h1 h2; unfold InI at *; omega)) rfl ?_
          refine Chain.cons (StepOK.move .none (.tmp rfl (fun _ => trivial))) rfl ?_
          refine Chain.nil ?_
          refine Ends.againK (i + 1) ?_ (.cons (t := 29) (look_eq (by rfl) ?_) (.cons (t := 27) (by rfl) (.cons (t := 28) (by rfl) Sub.nil))) (.cons (t := 5) (lookB_eq (by rfl) ?_) (.cons (t := 2) rfl SubB.nil))
          all_goals (first | exact ⟨by omega, by omega⟩ | (rw [hst]; try rfl) | rfl)
        · try simp only [decide_eq_true_eq, decide_eq_false_iff_not, Bool.and_eq_true, Bool.or_eq_true, Bool.not_eq_true', Bool.not_eq_false', Bool.and_eq_false_iff, Bool.or_eq_false_iff, Int.not_lt, Int.not_le, Bool.true_eq_false, Bool.false_eq_true, true_and, and_true] at hb4
          obtain rfl : i = l.length := by omega
          refine Cod.exit ?_
          refine Ends.thenExit ?_
          refine Ends.thenExit ?_
          refine Ends.blkExit ?_
          refine Ends.then ?_
          refine Cod.freeze (t := 5) rfl (.cons (t := 2) rfl SubB.nil) rfl ?_
          refine Cod.weaken (.cons (t := 5) rfl Sub.nil) (.cons (t := 2) rfl SubB.nil) ?_
          refine Cod.seq ?_
          refine Cod.seq ?_
          refine Cod.region [] mixed (by kernel_rfl) ?_
          refine Chain.cons (StepOK.fieldAddr .none fd48_2 hfd48_2 (.tmp rfl (fun _ => trivial))) rfl ?_
          refine Chain.cons (StepOK.load .none ty3 (.tmp rfl (fun _ => trivial))) rfl ?_
          refine Chain.cons (StepOK.gt .none (.tmp rfl (fun _ => trivial)) (.int (by decide))) rfl ?_
          refine Chain.cons (StepOK.move .none (.tmp rfl (fun _ => trivial))) rfl ?_
          refine Chain.cons (StepOK.fieldAddr (.at rfl rfl) fd48_3 hfd48_3 (.tmp rfl (fun _ => trivial))) rfl ?_
          refine Chain.cons (StepOK.load (.at rfl rfl) ty3 (.tmp rfl id)) rfl ?_
          refine Chain.cons (StepOK.gt (.at rfl rfl) (.tmp rfl id) (.int (by decide))) rfl ?_
          refine Chain.cons (StepOK.pickOr .none (.tmp rfl (fun _ => trivial)) (.tmp rfl id)) rfl ?_
          refine Chain.nil ?_
          refine Ends.then ?_
          refine Cod.weaken (.cons (t := 5) rfl (.cons (t := 80) rfl Sub.nil)) (.cons (t := 2) rfl SubB.nil) ?_
          refine Cod.cond (t := 80) rfl trivial (fun hb5 => ?_) (fun hb5 => ?_)
          · try simp only [decide_eq_true_eq, decide_eq_false_iff_not, Bool.and_eq_true, Bool.or_eq_true, Bool.not_eq_true', Bool.not_eq_false', Bool.and_eq_false_iff, Bool.or_eq_false_iff, Int.not_lt, Int.not_le, Bool.true_eq_false, Bool.false_eq_true, true_and, and_true] at hb5
            refine Cod.seq ?_
            refine Cod.region [([], none), ([2], some 2), ([], none)] mixed (by kernel_rfl) ?_
            refine Chain.consA (StepOK.build (y := (⟨0, 0, 0, 0⟩ : Bx)) .none bu48 .nil rfl (fun M w vs h => by match vs, h with | [], _ => exact ⟨_, rfl, rep_bx_cells (by decide) (by decide) (by decide) (by decide)⟩)) rfl ?_
            refine Chain.store ty48 rfl (.tmp rfl (fun _ => trivial)) ?_
            refine Chain.consA (StepOK.assign .none (.int (by decide))) rfl ?_
            refine Chain.nil ?_
            refine Ends.then ?_
            refine Cod.weaken (.cons (t := 3) rfl Sub.nil) (.cons (t := 2) rfl SubB.nil) ?_
            refine Cod.ret ?_
            refine Ends.thenRet ?_
            refine Ends.ret2 (.inl rfl) Try.results30 (ResOK.cellB ty48 rfl ?_) (ResOK.tmp rfl trivial ?_)
            all_goals (refine Imp.eq ?_; have h1 : hullE l = 4 := (by unfold hullE hullF; rw [if_neg (by omega), if_pos (by omega)]); simp [hE, hullV, h1])
          · try simp only [decide_eq_true_eq, decide_eq_false_iff_not, Bool.and_eq_true, Bool.or_eq_true, Bool.not_eq_true', Bool.not_eq_false', Bool.and_eq_false_iff, Bool.or_eq_false_iff, Int.not_lt, Int.not_le, Bool.true_eq_false, Bool.false_eq_true, true_and, and_true] at hb5
            refine Cod.skip ?_
            refine Ends.then ?_
            refine Cod.weaken (.cons (t := 5) rfl Sub.nil) (.cons (t := 2) rfl SubB.nil) ?_
            refine Cod.seq ?_
            refine Cod.region [([], none), ([2], some 2), ([], none)] mixed (by kernel_rfl) ?_
            refine Chain.consA (StepOK.load .none ty48 (.tmp rfl (fun _ => trivial))) rfl ?_
            refine Chain.store ty48 rfl (.tmp rfl (fun _ => trivial)) ?_
            refine Chain.consA (StepOK.assign .none (.int (by decide))) rfl ?_
            refine Chain.nil ?_
            refine Ends.then ?_
            refine Cod.weaken (.cons (t := 3) rfl Sub.nil) (.cons (t := 2) rfl SubB.nil) ?_
            refine Cod.ret ?_
            refine Ends.ret2 (.inl rfl) Try.results30 (ResOK.cellB ty48 rfl ?_) (ResOK.tmp rfl trivial ?_)
            all_goals (refine Imp.eq ?_; have h1 : hullE l = 0 := (by unfold hullE hullF; rw [if_neg (by omega), if_neg (by omega)]); simp [hE, hullV, h1, hullF])

/-- drawref1.HullOf -/
theorem HullOf_spec (l : List Bx) : bxsErr l = 0 → FSpec Try.prog 32 [rep l] (tup [rep (hullV l), rep (hullE l)]) := by
  intro hpre
  refine FSpec.intro (n := 79) fnok32 Try.func32 rfl Try.ntmps32 rfl (fun w0 Mf => ?_)
  refine Cod.fact (t := 0) rfl trivial rep_len (fun hlen0 => ?_)
  refine Cod.seq ?_
  refine Cod.region [([], some 2), ([], none)] mixed (by kernel_rfl) ?_
  refine Chain.alloc zo48 rfl rfl ?_
  refine Chain.consA (StepOK.assign .none (.int (by decide))) rfl ?_
  refine Chain.nil ?_
  refine Ends.then ?_
  refine Cod.weaken (.cons (t := 0) rfl Sub.nil) (.cons (t := 2) rfl SubB.nil) ?_
  refine Cod.seq ?_
  refine Cod.seq ?_
  refine Cod.region [] mixed (by kernel_rfl) ?_
  refine Chain.cons (StepOK.move .none (.tmp rfl (fun _ => trivial))) rfl ?_
  refine Chain.cons (StepOK.len .none sl49 (.tmp rfl (fun _ => trivial))) rfl ?_
  refine Chain.cons (StepOK.eqI .none (.tmp rfl (fun _ => trivial)) (.int (by decide))) rfl ?_
  refine Chain.nil ?_
  refine Ends.then ?_
  refine Cod.weaken (.cons (t := 0) rfl (.cons (t := 12) rfl Sub.nil)) (.cons (t := 2) rfl SubB.nil) ?_
  refine Cod.cond (t := 12) rfl trivial (fun hb1 => ?_) (fun hb1 => ?_)
  · try simp only [decide_eq_true_eq, decide_eq_false_iff_not, Bool.and_eq_true, Bool.or_eq_true, Bool.not_eq_true', Bool.not_eq_false', Bool.and_eq_false_iff, Bool.or_eq_false_iff, Int.not_lt, Int.not_le, Bool.true_eq_false, Bool.false_eq_true, true_and, and_true] at hb1
    refine Cod.seq ?_
    refine Cod.region [([], none), ([2], some 2), ([], none)] mixed (by kernel_rfl) ?_
    refine Chain.consA (StepOK.build (y := (⟨0, 0, 0, 0⟩ : Bx)) .none bu48 .nil rfl (fun M w vs h => by match vs, h with | [], _ => exact ⟨_, rfl, rep_bx_cells (by decide) (by decide) (by decide) (by decide)⟩)) rfl ?_
    refine Chain.store ty48 rfl (.tmp rfl (fun _ => trivial)) ?_
    refine Chain.consA (StepOK.assign .none (.int (by decide))) rfl ?_
    refine Chain.nil ?_
    refine Ends.then ?_
    refine Cod.weaken (.cons (t := 3) rfl Sub.nil) (.cons (t := 2) rfl SubB.nil) ?_
    refine Cod.ret ?_
    refine Ends.thenRet ?_
    refine Ends.ret2 (.inl rfl) Try.results32 (ResOK.cellB ty48 rfl ?_) (ResOK.tmp rfl trivial ?_)
    all_goals (refine Imp.eq ?_; have h1 : hullE l = 9 := (by unfold hullE; rw [if_pos (by omega)]); simp [hullV, h1])
  · try simp only [decide_eq_true_eq, decide_eq_false_iff_not, Bool.and_eq_true, Bool.or_eq_true, Bool.not_eq_true', Bool.not_eq_false', Bool.and_eq_false_iff, Bool.or_eq_false_iff, Int.not_lt, Int.not_le, Bool.true_eq_false, Bool.false_eq_true, true_and, and_true] at hb1
    have hne : 0 < l.length := by omega
    refine Cod.skip ?_
    refine Ends.then ?_
    refine Cod.weaken (.cons (t := 0) rfl Sub.nil) (.cons (t := 2) rfl SubB.nil) ?_
    refine Cod.seq ?_
    refine Cod.region [] mixed (by kernel_rfl) ?_
    refine Chain.cons (StepOK.move .none (.tmp rfl (fun _ => trivial))) rfl ?_
    refine Chain.cons (StepOK.indexAddr .none sl49 ty48 (.tmp rfl (fun _ => trivial)) (.int (by decide)) (by intro _; omega)) rfl ?_
    refine Chain.cons (StepOK.fieldAddr .none fd48_0 hfd48_0 (.tmp rfl (fun _ => trivial))) rfl ?_
    refine Chain.cons (StepOK.load .none ty3 (.tmp rfl (fun _ => trivial))) rfl ?_
    refine Chain.cons (StepOK.move .none (.tmp rfl (fun _ => trivial))) rfl ?_
    refine Chain.cons (StepOK.indexAddr .none sl49 ty48 (.tmp rfl (fun _ => trivial)) (.int (by decide)) (by intro _; omega)) rfl ?_
    refine Chain.cons (StepOK.fieldAddr .none fd48_1 hfd48_1 (.tmp rfl (fun _ => trivial))) rfl ?_
    refine Chain.cons (StepOK.load .none ty3 (.tmp rfl (fun _ => trivial))) rfl ?_
    refine Chain.cons (StepOK.move .none (.tmp rfl (fun _ => trivial))) rfl ?_
    refine Chain.cons (StepOK.indexAddr .none sl49 ty48 (.tmp rfl (fun _ => trivial)) (.int (by decide)) (by intro _; omega)) rfl ?_
    refine Chain.cons (StepOK.fieldAddr .none fd48_0 hfd48_0 (.tmp rfl (fun _ => trivial))) rfl ?_
    refine Chain.cons (StepOK.load .none ty3 (.tmp rfl (fun _ => trivial))) rfl ?_
    refine Chain.cons (StepOK.move .none (.tmp rfl (fun _ => trivial))) rfl ?_
    refine Chain.cons (StepOK.indexAddr .none sl49 ty48 (.tmp rfl (fun _ => trivial)) (.int (by decide)) (by intro _; omega)) rfl ?_
    refine Chain.cons (StepOK.fieldAddr .none fd48_1 hfd48_1 (.tmp rfl (fun _ => trivial))) rfl ?_
    refine Chain.cons (StepOK.load .none ty3 (.tmp rfl (fun _ => trivial))) rfl ?_
    refine Chain.cons (StepOK.assign .none (.tmp rfl (fun _ => trivial))) rfl ?_
    refine Chain.cons (StepOK.assign .none (.tmp rfl (fun _ => trivial))) rfl ?_
    refine Chain.cons (StepOK.assign .none (.tmp rfl (fun _ => trivial))) rfl ?_
    refine Chain.cons (StepOK.assign .none (.tmp rfl (fun _ => trivial))) rfl ?_
    refine Chain.nil ?_
    refine Ends.then ?_
    refine Cod.weaken (.cons (t := 0) rfl (.cons (t := 4) rfl (.cons (t := 5) rfl (.cons (t := 6) rfl (.cons (t := 7) rfl Sub.nil))))) (.cons (t := 2) rfl SubB.nil) ?_
    refine Cod.seq ?_
    refine Cod.seq ?_
    refine Cod.region [] mixed (by kernel_rfl) ?_
    refine Chain.cons (StepOK.move .none (.tmp rfl (fun _ => trivial))) rfl ?_
    refine Chain.cons (StepOK.len .none sl49 (.tmp rfl (fun _ => trivial))) rfl ?_
    refine Chain.cons (StepOK.move .none (.int (by decide))) rfl ?_
    refine Chain.nil ?_
    refine Ends.then ?_
    refine Cod.weaken (.cons (t := 4) rfl (.cons (t := 5) rfl (.cons (t := 6) rfl (.cons (t := 7) rfl (.cons (t := 30) rfl (.cons (t := 31) rfl (.cons (t := 32) rfl Sub.nil))))))) (.cons (t := 2) rfl SubB.nil) ?_
    refine Cod.block ?_
    refine Cod.loopK (ι := Nat) (fun i => [(4, ⟨True, rep (cornAcc l i).1⟩), (5, ⟨True, rep (cornAcc l i).2.1⟩), (6, ⟨True, rep (cornAcc l i).2.2.1⟩), (7, ⟨True, rep (cornAcc l i).2.2.2⟩), (32, ⟨True, rep ((i : Nat) : Int)⟩)]) (fun i => []) (fun i => l.length - i) (0) (fun i => i ≤ l.length) (Nat.zero_le _) (.cons (t := 4) (by rfl) (.cons (t := 5) (by rfl) (.cons (t := 6) (by rfl) (.cons (t := 7) (by rfl) (.cons (t := 32) (by rfl) Sub.nil))))) SubB.nil (.cons (t := 30) (by rfl) (.cons (t := 31) (by rfl) Sub.nil)) (.cons (t := 2) rfl SubB.nil) (fun i hi => ?_)
    have hin := cornAcc_in hpre hne i hi
    refine Cod.seq ?_
    refine Cod.region [] mixed (by kernel_rfl) ?_
    refine Chain.cons (StepOK.lt .none (.tmp rfl (fun _ => trivial)) (.tmp rfl (fun _ => trivial))) rfl ?_
    refine Chain.nil ?_
    refine Ends.then ?_
    refine Cod.weaken (.cons (t := 4) rfl (.cons (t := 5) rfl (.cons (t := 6) rfl (.cons (t := 7) rfl (.cons (t := 30) rfl (.cons (t := 31) rfl (.cons (t := 32) rfl (.cons (t := 33) rfl Sub.nil)))))))) (.cons (t := 2) rfl SubB.nil) ?_
    refine Cod.seq ?_
    refine Cod.cond (t := 33) rfl trivial (fun hb2 => ?_) (fun hb2 => ?_)
    · try simp only [decide_eq_true_eq, decide_eq_false_iff_not, Bool.and_eq_true, Bool.or_eq_true, Bool.not_eq_true', Bool.not_eq_false', Bool.and_eq_false_iff, Bool.or_eq_false_iff, Int.not_lt, Int.not_le, Bool.true_eq_false, Bool.false_eq_true, true_and, and_true] at hb2
      have hbx := bxsErr_zero hpre _ (gx_mem (l := l) (k := (i : Int)) (by omega) (by omega)); have hst := cornAcc_next (l := l) (i := i) (by omega); unfold BxIn at hbx
      refine Cod.skip ?_
      refine Ends.then ?_
      refine Cod.weaken (.cons (t := 4) rfl (.cons (t := 5) rfl (.cons (t := 6) rfl (.cons (t := 7) rfl (.cons (t := 30) rfl (.cons (t := 31) rfl (.cons (t := 32) rfl Sub.nil))))))) (.cons (t := 2) rfl SubB.nil) ?_
      refine Cod.seq ?_
      refine Cod.block ?_
      refine Cod.seq ?_
      refine Cod.region [([], none), ([], none), ([], some 9), ([9], some 9)] mixed (by kernel_rfl) ?_
      refine Chain.consA (StepOK.indexAddr .none sl49 ty48 (.tmp rfl (fun _ => trivial)) (.tmp rfl (fun _ => trivial)) (by intro _; omega)) rfl ?_
      refine Chain.consA (StepOK.load .none ty48 (.tmp rfl (fun _ => trivial))) rfl ?_
      refine Chain.alloc zo48 rfl rfl ?_
      refine Chain.store ty48 rfl (.tmp rfl (fun _ => trivial)) ?_
      refine Chain.nil ?_
      refine Ends.then ?_
      refine Cod.weaken (.cons (t := 4) rfl (.cons (t := 5) rfl (.cons (t := 6) rfl (.cons (t := 7) rfl (.cons (t := 30) rfl (.cons (t := 31) rfl (.cons (t := 32) rfl Sub.nil))))))) (.cons (t := 2) rfl (.cons (t := 9) rfl SubB.nil)) ?_
      refine Cod.openB (t := 9) rfl (fun m9 => ?_)
      refine Cod.region [([], none), ([], none), ([9], none), ([], none), ([], none), ([], none), ([9], none), ([], none), ([], none), ([], none), ([9], none), ([], none), ([9], none), ([], none), ([], none), ([], none), ([], none), ([9], none), ([], none), ([9], none), ([], none), ([], none), ([], none), ([], none), ([], none), ([], none)] mixed (by kernel_rfl) ?_
      refine Chain.consA (StepOK.move .none (.tmp rfl (fun _ => trivial))) rfl ?_
      refine Chain.consA (StepOK.fieldPtr .none fd48_0 (.tmp rfl (fun _ => trivial))) rfl ?_
      refine Chain.consA (StepOK.loadField (t := 9) .none ty3 rfl rfl (.tmp rfl (fun _ => trivial)) hfd48_0 rfl) rfl ?_
      refine Chain.consA (StepOK.min2 .none (.tmp rfl (fun _ => trivial)) (.tmp rfl (fun _ => trivial))) rfl ?_
      refine Chain.consA (StepOK.move .none (.tmp rfl (fun _ => trivial))) rfl ?_
      refine Chain.consA (StepOK.fieldPtr .none fd48_1 (.tmp rfl (fun _ => trivial))) rfl ?_
      refine Chain.consA (StepOK.loadField (t := 9) .none ty3 rfl rfl (.tmp rfl (fun _ => trivial)) hfd48_1 rfl) rfl ?_
      refine Chain.consA (StepOK.min2 .none (.tmp rfl (fun _ => trivial)) (.tmp rfl (fun _ => trivial))) rfl ?_
      refine Chain.consA (StepOK.move .none (.tmp rfl (fun _ => trivial))) rfl ?_
      refine Chain.consA (StepOK.fieldPtr .none fd48_0 (.tmp rfl (fun _ => trivial))) rfl ?_
      refine Chain.consA (StepOK.loadField (t := 9) .none ty3 rfl rfl (.tmp rfl (fun _ => trivial)) hfd48_0 rfl) rfl ?_
      refine Chain.consA (StepOK.fieldPtr .none fd48_2 (.tmp rfl (fun _ => trivial))) rfl ?_
      refine Chain.consA (StepOK.loadField (t := 9) .none ty3 rfl rfl (.tmp rfl (fun _ => trivial)) hfd48_2 rfl) rfl ?_
      refine Chain.consA (StepOK.add .none (.tmp rfl (fun _ => trivial)) (.tmp rfl (fun _ => trivial)) (by intro _ h1 h2; unfold InI at *; omega)) rfl ?_
      refine Chain.consA (StepOK.max2 .none (.tmp rfl (fun _ => trivial)) (.tmp rfl (fun _ => trivial))) rfl ?_
      refine Chain.consA (StepOK.move .none (.tmp rfl (fun _ => trivial))) rfl ?_
      refine Chain.consA (StepOK.fieldPtr .none fd48_1 (.tmp rfl (fun _ => trivial))) rfl ?_
      refine Chain.consA (StepOK.loadField (t := 9) .none ty3 rfl rfl (.tmp rfl (fun _ => trivial)) hfd48_1 rfl) rfl ?_
      refine Chain.consA (StepOK.fieldPtr .none fd48_3 (.tmp rfl (fun _ => trivial))) rfl ?_
      refine Chain.consA (StepOK.loadField (t := 9) .none ty3 rfl rfl (.tmp rfl (fun _ => trivial)) hfd48_3 rfl) rfl ?_
      refine Chain.consA (StepOK.add .none (.tmp rfl (fun _ => trivial)) (.tmp rfl (fun _ => trivial)) (by intro _ h1 h2; unfold InI at *; omega)) rfl ?_
      refine Chain.consA (StepOK.max2 .none (.tmp rfl (fun _ => trivial)) (.tmp rfl (fun _ => trivial))) rfl ?_
      refine Chain.consA (StepOK.assign .none (.tmp rfl (fun _ => trivial))) rfl ?_
      refine Chain.consA (StepOK.assign .none (.tmp rfl (fun _ => trivial))) rfl ?_
      refine Chain.consA (StepOK.assign .none (.tmp rfl (fun _ => trivial))) rfl ?_
      refine Chain.consA (StepOK.assign .none (.tmp rfl (fun _ => trivial))) rfl ?_
      refine Chain.nil ?_
      refine Ends.blkNormal ?_
      refine Ends.then ?_
      refine Cod.weaken (.cons (t := 4) rfl (.cons (t := 5) rfl (.cons (t := 6) rfl (.cons (t := 7) rfl (.cons (t := 30) rfl (.cons (t := 31) rfl (.cons (t := 32) rfl Sub.nil))))))) (.cons (t := 2) rfl SubB.nil) ?_
      refine Cod.region [] mixed (by kernel_rfl) ?_
      refine Chain.cons (StepOK.add .none (.tmp rfl (fun _ => trivial)) (.int (by decide)) (by intro _ h1 h2; unfold InI at *; omega)) rfl ?_
      refine Chain.cons (StepOK.move .none (.tmp rfl (fun _ => trivial))) rfl ?_
      refine Chain.nil ?_
      refine Ends.againK (i + 1) ?_ (.cons (t := 4) (look_eq (by rfl) ?_) (.cons (t := 5) (look_eq (by rfl) ?_) (.cons (t := 6) (look_eq (by rfl) ?_) (.cons (t := 7) (look_eq (by rfl) ?_) (.cons (t := 32) (look_eq (by rfl) ?_) (.cons (t := 30) (by rfl) (.cons (t := 31) (by rfl) Sub.nil))))))) (.cons (t := 2) rfl SubB.nil)
      all_goals (first | exact ⟨by omega, by omega⟩ | (rw [hst]) | rfl)
    · try simp only [decide_eq_true_eq, decide_eq_false_iff_not, Bool.and_eq_true, Bool.or_eq_true, Bool.not_eq_true', Bool.not_eq_false', Bool.and_eq_false_iff, Bool.or_eq_false_iff, Int.not_lt, Int.not_le, Bool.true_eq_false, Bool.false_eq_true, true_and, and_true] at hb2
      obtain rfl : i = l.length := (by omega); have hc := corn_parts hpre hne
      refine Cod.exit ?_
      refine Ends.thenExit ?_
      refine Ends.thenExit ?_
      refine Ends.blkExit ?_
      refine Ends.then ?_
      refine Cod.weaken (.cons (t := 4) rfl (.cons (t := 5) rfl (.cons (t := 6) rfl (.cons (t := 7) rfl Sub.nil)))) (.cons (t := 2) rfl SubB.nil) ?_
      refine Cod.seq ?_
      refine Cod.seq ?_
      refine Cod.region [] mixed (by kernel_rfl) ?_
      refine Chain.cons (StepOK.move .none (.tmp rfl (fun _ => trivial))) rfl ?_
      refine Chain.cons (StepOK.move .none (.tmp rfl (fun _ => trivial))) rfl ?_
      refine Chain.cons (StepOK.sub .none (.tmp rfl (fun _ => trivial)) (.tmp rfl (fun _ => trivial)) (by intro _ h1 h2; unfold InI at *; omega)) rfl ?_
      refine Chain.cons (StepOK.gt .none (.tmp rfl (fun _ => trivial)) (.int (by decide))) rfl ?_
      refine Chain.cons (StepOK.move .none (.tmp rfl (fun _ => trivial))) rfl ?_
      refine Chain.cons (StepOK.move (.at rfl rfl) (.tmp rfl (fun _ => trivial))) rfl ?_
      refine Chain.cons (StepOK.move (.at rfl rfl) (.tmp rfl (fun _ => trivial))) rfl ?_
      refine Chain.cons (StepOK.sub (.at rfl rfl) (.tmp rfl id) (.tmp rfl id) (by intro _ h1 h2; unfold InI at *; omega)) rfl ?_
      refine Chain.cons (StepOK.gt (.at rfl rfl) (.tmp rfl id) (.int (by decide))) rfl ?_
      refine Chain.cons (StepOK.pickOr .none (.tmp rfl (fun _ => trivial)) (.tmp rfl id)) rfl ?_
      refine Chain.nil ?_
      refine Ends.then ?_
      refine Cod.weaken (.cons (t := 4) rfl (.cons (t := 5) rfl (.cons (t := 6) rfl (.cons (t := 7) rfl (.cons (t := 68) rfl Sub.nil))))) (.cons (t := 2) rfl SubB.nil) ?_
      refine Cod.cond (t := 68) rfl trivial (fun hb3 => ?_) (fun hb3 => ?_)
      · try simp only [decide_eq_true_eq, decide_eq_false_iff_not, Bool.and_eq_true, Bool.or_eq_true, Bool.not_eq_true', Bool.not_eq_false', Bool.and_eq_false_iff, Bool.or_eq_false_iff, Int.not_lt, Int.not_le, Bool.true_eq_false, Bool.false_eq_true, true_and, and_true] at hb3
        refine Cod.seq ?_
        refine Cod.region [([], none), ([2], some 2), ([], none)] mixed (by kernel_rfl) ?_
        refine Chain.consA (StepOK.build (y := (⟨0, 0, 0, 0⟩ : Bx)) .none bu48 .nil rfl (fun M w vs h => by match vs, h with | [], _ => exact ⟨_, rfl, rep_bx_cells (by decide) (by decide) (by decide) (by decide)⟩)) rfl ?_
        refine Chain.store ty48 rfl (.tmp rfl (fun _ => trivial)) ?_
        refine Chain.consA (StepOK.assign .none (.int (by decide))) rfl ?_
        refine Chain.nil ?_
        refine Ends.then ?_
        refine Cod.weaken (.cons (t := 3) rfl Sub.nil) (.cons (t := 2) rfl SubB.nil) ?_
        refine Cod.ret ?_
        refine Ends.thenRet ?_
        refine Ends.ret2 (.inl rfl) Try.results32 (ResOK.cellB ty48 rfl ?_) (ResOK.tmp rfl trivial ?_)
        all_goals (refine Imp.eq ?_; have h1 : hullE l = 4 := (by unfold hullE hullF; rw [if_neg (by omega), if_pos (by omega)]); simp [hullV, h1])
      · try simp only [decide_eq_true_eq, decide_eq_false_iff_not, Bool.and_eq_true, Bool.or_eq_true, Bool.not_eq_true', Bool.not_eq_false', Bool.and_eq_false_iff, Bool.or_eq_false_iff, Int.not_lt, Int.not_le, Bool.true_eq_false, Bool.false_eq_true, true_and, and_true] at hb3
        refine Cod.skip ?_
        refine Ends.then ?_
        refine Cod.weaken (.cons (t := 4) rfl (.cons (t := 5) rfl (.cons (t := 6) rfl (.cons (t := 7) rfl Sub.nil)))) (.cons (t := 2) rfl SubB.nil) ?_
        refine Cod.seq ?_
        refine Cod.region [([], none), ([], none), ([], none), ([], none), ([], none), ([], none), ([], none), ([], none), ([], none), ([2], some 2), ([], none)] mixed (by kernel_rfl) ?_
        refine Chain.consA (StepOK.move .none (.tmp rfl (fun _ => trivial))) rfl ?_
        refine Chain.consA (StepOK.move .none (.tmp rfl (fun _ => trivial))) rfl ?_
        refine Chain.consA (StepOK.move .none (.tmp rfl (fun _ => trivial))) rfl ?_
        refine Chain.consA (StepOK.move .none (.tmp rfl (fun _ => trivial))) rfl ?_
        refine Chain.consA (StepOK.sub .none (.tmp rfl (fun _ => trivial)) (.tmp rfl (fun _ => trivial)) (by intro _ h1 h2; unfold InI at *; omega)) rfl ?_
        refine Chain.consA (StepOK.move .none (.tmp rfl (fun _ => trivial))) rfl ?_
        refine Chain.consA (StepOK.move .none (.tmp rfl (fun _ => trivial))) rfl ?_
        refine Chain.consA (StepOK.sub .none (.tmp rfl (fun _ => trivial)) (.tmp rfl (fun _ => trivial)) (by intro _ h1 h2; unfold InI at *; omega)) rfl ?_
        refine Chain.consA (StepOK.build (y := (⟨_, _, _, _⟩ : Bx)) .none bu48 (.cons (.tmp rfl (fun _ => trivial)) (.cons (.tmp rfl (fun _ => trivial)) (.cons (.tmp rfl (fun _ => trivial)) (.cons (.tmp rfl (fun _ => trivial)) .nil)))) rfl (fun M w vs h => by obtain ⟨rfl, hi⟩ := All2.ints [_, _, _, _] vs h; exact ⟨_, rfl, rep_bx_cells (p := ⟨_, _, _, _⟩) (hi _ (.head _)) (hi _ (.tail _ (.head _))) (hi _ (.tail _ (.tail _ (.head _)))) (hi _ (.tail _ (.tail _ (.tail _ (.head _)))))⟩)) rfl ?_
        refine Chain.store ty48 rfl (.tmp rfl (fun _ => trivial)) ?_
        refine Chain.consA (StepOK.assign .none (.int (by decide))) rfl ?_
        refine Chain.nil ?_
        refine Ends.then ?_
        refine Cod.weaken (.cons (t := 3) rfl Sub.nil) (.cons (t := 2) rfl SubB.nil) ?_
        refine Cod.ret ?_
        refine Ends.ret2 (.inl rfl) Try.results32 (ResOK.cellB ty48 rfl ?_) (ResOK.tmp rfl trivial ?_)
        all_goals (refine Imp.eq ?_; have h1 : hullE l = 0 := (by unfold hullE hullF; rw [if_neg (by omega), if_neg (by omega)]); first | exact h1.symm | (rw [hullV, if_pos h1]; exact corn_bx hpre hne))

/-- geom.Common -/
theorem Common_spec (a b : Bx) : FSpec Try.prog 37 [rep a, rep b] (tup [rep (if bxsErr [a, b] = 0 then commV a b else ⟨0, 0, 0, 0⟩), rep (if bxsErr [a, b] = 0 then commSome a b else false), rep (bxsErr [a, b])]) := by
  refine FSpec.intro (n := 68) fnok37 Try.func37 rfl Try.ntmps37 rfl (fun w0 Mf => ?_)
  refine Cod.seq ?_
  refine Cod.region [([], none), ([], none), ([], some 4), ([], none), ([], none)] mixed (by kernel_rfl) ?_
  refine Chain.consA (StepOK.box .none (.tmp rfl (fun _ => trivial))) rfl ?_
  refine Chain.consA (StepOK.box .none (.tmp rfl (fun _ => trivial))) rfl ?_
  refine Chain.alloc zo48 rfl rfl ?_
  refine Chain.consA (StepOK.assign .none .bool) rfl ?_
  refine Chain.consA (StepOK.assign .none (.int (by decide))) rfl ?_
  refine Chain.nil ?_
  refine Ends.then ?_
  refine Cod.weaken (.cons (t := 2) rfl (.cons (t := 3) rfl Sub.nil)) (.cons (t := 4) rfl SubB.nil) ?_
  refine Cod.seq ?_
  refine Cod.seq ?_
  refine Cod.region [] mixed (by kernel_rfl) ?_
  refine Chain.cons (StepOK.load .none ty48 (.tmp rfl (fun _ => trivial))) rfl ?_
  refine Chain.cons (StepOK.load .none ty48 (.tmp rfl (fun _ => trivial))) rfl ?_
  refine Chain.cons (StepOK.buildSlice (xs := [_, _]) .none sl49 ty48 hz48 (.cons (.tmp rfl (fun _ => trivial)) (.cons (.tmp rfl (fun _ => trivial)) .nil)) rfl (by decide)) rfl ?_
  refine Chain.cons (StepOK.call .none (boxes_spec _) (.cons (.tmp rfl (fun _ => trivial)) .nil)) rfl ?_
  refine Chain.cons (StepOK.assign .none (.tmp rfl (fun _ => trivial))) rfl ?_
  refine Chain.nil ?_
  refine Ends.then ?_
  refine Cod.weaken (.cons (t := 2) rfl (.cons (t := 3) rfl (.cons (t := 7) rfl Sub.nil))) (.cons (t := 4) rfl SubB.nil) ?_
  refine Cod.seq ?_
  refine Cod.region [] mixed (by kernel_rfl) ?_
  refine Chain.cons (StepOK.move .none (.tmp rfl (fun _ => trivial))) rfl ?_
  refine Chain.cons (StepOK.neI .none (.tmp rfl (fun _ => trivial)) (.int (by decide))) rfl ?_
  refine Chain.nil ?_
  refine Ends.then ?_
  refine Cod.weaken (.cons (t := 2) rfl (.cons (t := 3) rfl (.cons (t := 7) rfl (.cons (t := 16) rfl Sub.nil)))) (.cons (t := 4) rfl SubB.nil) ?_
  refine Cod.cond (t := 16) rfl trivial (fun hb1 => ?_) (fun hb1 => ?_)
  · try simp only [decide_eq_true_eq, decide_eq_false_iff_not, Bool.and_eq_true, Bool.or_eq_true, Bool.not_eq_true', Bool.not_eq_false', Bool.and_eq_false_iff, Bool.or_eq_false_iff, Int.not_lt, Int.not_le, Bool.true_eq_false, Bool.false_eq_true, true_and, and_true] at hb1
    refine Cod.seq ?_
    refine Cod.region [([], none), ([], none), ([4], some 4), ([], none), ([], none)] mixed (by kernel_rfl) ?_
    refine Chain.consA (StepOK.build (y := (⟨0, 0, 0, 0⟩ : Bx)) .none bu48 .nil rfl (fun M w vs h => by match vs, h with | [], _ => exact ⟨_, rfl, rep_bx_cells (by decide) (by decide) (by decide) (by decide)⟩)) rfl ?_
    refine Chain.consA (StepOK.move .none (.tmp rfl (fun _ => trivial))) rfl ?_
    refine Chain.store ty48 rfl (.tmp rfl (fun _ => trivial)) ?_
    refine Chain.consA (StepOK.assign .none .bool) rfl ?_
    refine Chain.consA (StepOK.assign .none (.tmp rfl (fun _ => trivial))) rfl ?_
    refine Chain.nil ?_
    refine Ends.then ?_
    refine Cod.weaken (.cons (t := 5) rfl (.cons (t := 6) rfl Sub.nil)) (.cons (t := 4) rfl SubB.nil) ?_
    refine Cod.ret ?_
    refine Ends.thenRet ?_
    refine Ends.ret3 (.inl rfl) Try.results37 (ResOK.cellB ty48 rfl ?_) (ResOK.tmp rfl trivial ?_) (ResOK.tmp rfl trivial ?_)
    all_goals (refine Imp.eq ?_; simp [hb1])
  · try simp only [decide_eq_true_eq, decide_eq_false_iff_not, Bool.and_eq_true, Bool.or_eq_true, Bool.not_eq_true', Bool.not_eq_false', Bool.and_eq_false_iff, Bool.or_eq_false_iff, Int.not_lt, Int.not_le, Bool.true_eq_false, Bool.false_eq_true, true_and, and_true] at hb1
    refine Cod.skip ?_
    refine Ends.then ?_
    refine Cod.weaken (.cons (t := 2) rfl (.cons (t := 3) rfl Sub.nil)) (.cons (t := 4) rfl SubB.nil) ?_
    refine Cod.seq ?_
    refine Cod.region [] mixed (by kernel_rfl) ?_
    refine Chain.cons (StepOK.fieldAddr .none fd48_0 hfd48_0 (.tmp rfl (fun _ => trivial))) rfl ?_
    refine Chain.cons (StepOK.load .none ty3 (.tmp rfl (fun _ => trivial))) rfl ?_
    refine Chain.cons (StepOK.fieldAddr .none fd48_0 hfd48_0 (.tmp rfl (fun _ => trivial))) rfl ?_
    refine Chain.cons (StepOK.load .none ty3 (.tmp rfl (fun _ => trivial))) rfl ?_
    refine Chain.cons (StepOK.max2 .none (.tmp rfl (fun _ => trivial)) (.tmp rfl (fun _ => trivial))) rfl ?_
    refine Chain.cons (StepOK.fieldAddr .none fd48_1 hfd48_1 (.tmp rfl (fun _ => trivial))) rfl ?_
    refine Chain.cons (StepOK.load .none ty3 (.tmp rfl (fun _ => trivial))) rfl ?_
    refine Chain.cons (StepOK.fieldAddr .none fd48_1 hfd48_1 (.tmp rfl (fun _ => trivial))) rfl ?_
    refine Chain.cons (StepOK.load .none ty3 (.tmp rfl (fun _ => trivial))) rfl ?_
    refine Chain.cons (StepOK.max2 .none (.tmp rfl (fun _ => trivial)) (.tmp rfl (fun _ => trivial))) rfl ?_
    refine Chain.cons (StepOK.assign .none (.tmp rfl (fun _ => trivial))) rfl ?_
    refine Chain.cons (StepOK.assign .none (.tmp rfl (fun _ => trivial))) rfl ?_
    refine Chain.nil ?_
    refine Ends.then ?_
    refine Cod.weaken (.cons (t := 2) rfl (.cons (t := 3) rfl (.cons (t := 8) rfl (.cons (t := 9) rfl Sub.nil)))) (.cons (t := 4) rfl SubB.nil) ?_
    refine Cod.seq ?_
    refine Cod.region [([], none), ([], none), ([], none), ([], none), ([], none), ([], none), ([], none), ([], none), ([], none), ([], none), ([], none), ([], none), ([], none), ([], none), ([], none), ([], none), ([], none), ([], none), ([], none), ([], none), ([], none), ([], none), ([], none), ([], none), ([], none), ([], none), ([], none), ([], none), ([], none), ([], some 10), ([10], some 10)] mixed (by kernel_rfl) ?_
    refine Chain.consA (StepOK.move .none (.tmp rfl (fun _ => trivial))) rfl ?_
    refine Chain.consA (StepOK.move .none (.tmp rfl (fun _ => trivial))) rfl ?_
    refine Chain.consA (StepOK.fieldAddr .none fd48_0 hfd48_0 (.tmp rfl (fun _ => trivial))) rfl ?_
    refine Chain.consA (StepOK.load .none ty3 (.tmp rfl (fun _ => trivial))) rfl ?_
    refine Chain.consA (StepOK.fieldAddr .none fd48_2 hfd48_2 (.tmp rfl (fun _ => trivial))) rfl ?_
    refine Chain.consA (StepOK.load .none ty3 (.tmp rfl (fun _ => trivial))) rfl ?_
    refine Chain.consA (StepOK.addW .none (.tmp rfl (fun _ => trivial)) (.tmp rfl (fun _ => trivial))) rfl ?_
    refine Chain.consA (StepOK.fieldAddr .none fd48_0 hfd48_0 (.tmp rfl (fun _ => trivial))) rfl ?_
    refine Chain.consA (StepOK.load .none ty3 (.tmp rfl (fun _ => trivial))) rfl ?_
    refine Chain.consA (StepOK.fieldAddr .none fd48_2 hfd48_2 (.tmp rfl (fun _ => trivial))) rfl ?_
    refine Chain.consA (StepOK.load .none ty3 (.tmp rfl (fun _ => trivial))) rfl ?_
    refine Chain.consA (StepOK.addW .none (.tmp rfl (fun _ => trivial)) (.tmp rfl (fun _ => trivial))) rfl ?_
    refine Chain.consA (StepOK.min2 .none (.tmp rfl (fun _ => trivial)) (.tmp rfl (fun _ => trivial))) rfl ?_
    refine Chain.consA (StepOK.move .none (.tmp rfl (fun _ => trivial))) rfl ?_
    refine Chain.consA (StepOK.subW .none (.tmp rfl (fun _ => trivial)) (.tmp rfl (fun _ => trivial))) rfl ?_
    refine Chain.consA (StepOK.fieldAddr .none fd48_1 hfd48_1 (.tmp rfl (fun _ => trivial))) rfl ?_
    refine Chain.consA (StepOK.load .none ty3 (.tmp rfl (fun _ => trivial))) rfl ?_
    refine Chain.consA (StepOK.fieldAddr .none fd48_3 hfd48_3 (.tmp rfl (fun _ => trivial))) rfl ?_
    refine Chain.consA (StepOK.load .none ty3 (.tmp rfl (fun _ => trivial))) rfl ?_
    refine Chain.consA (StepOK.addW .none (.tmp rfl (fun _ => trivial)) (.tmp rfl (fun _ => trivial))) rfl ?_
    refine Chain.consA (StepOK.fieldAddr .none fd48_1 hfd48_1 (.tmp rfl (fun _ => trivial))) rfl ?_
    refine Chain.consA (StepOK.load .none ty3 (.tmp rfl (fun _ => trivial))) rfl ?_
    refine Chain.consA (StepOK.fieldAddr .none fd48_3 hfd48_3 (.tmp rfl (fun _ => trivial))) rfl ?_
    refine Chain.consA (StepOK.load .none ty3 (.tmp rfl (fun _ => trivial))) rfl ?_
    refine Chain.consA (StepOK.addW .none (.tmp rfl (fun _ => trivial)) (.tmp rfl (fun _ => trivial))) rfl ?_
    refine Chain.consA (StepOK.min2 .none (.tmp rfl (fun _ => trivial)) (.tmp rfl (fun _ => trivial))) rfl ?_
    refine Chain.consA (StepOK.move .none (.tmp rfl (fun _ => trivial))) rfl ?_
    refine Chain.consA (StepOK.subW .none (.tmp rfl (fun _ => trivial)) (.tmp rfl (fun _ => trivial))) rfl ?_
    refine Chain.consA (StepOK.build (y := (⟨_, _, _, _⟩ : Bx)) .none bu48 (.cons (.tmp rfl (fun _ => trivial)) (.cons (.tmp rfl (fun _ => trivial)) (.cons (.tmp rfl (fun _ => trivial)) (.cons (.tmp rfl (fun _ => trivial)) .nil)))) rfl (fun M w vs h => by obtain ⟨rfl, hi⟩ := All2.ints [_, _, _, _] vs h; exact ⟨_, rfl, rep_bx_cells (p := ⟨_, _, _, _⟩) (hi _ (.head _)) (hi _ (.tail _ (.head _))) (hi _ (.tail _ (.tail _ (.head _)))) (hi _ (.tail _ (.tail _ (.tail _ (.head _)))))⟩)) rfl ?_
    refine Chain.alloc zo48 rfl rfl ?_
    refine Chain.store ty48 rfl (.tmp rfl (fun _ => trivial)) ?_
    refine Chain.nil ?_
    refine Ends.then ?_
    refine Cod.freeze (t := 10) rfl (.cons (t := 4) rfl SubB.nil) rfl ?_
    refine Cod.weaken (.cons (t := 10) rfl Sub.nil) (.cons (t := 4) rfl SubB.nil) ?_
    refine Cod.seq ?_
    refine Cod.seq ?_
    refine Cod.region [] mixed (by kernel_rfl) ?_
    refine Chain.cons (StepOK.fieldAddr .none fd48_2 hfd48_2 (.tmp rfl (fun _ => trivial))) rfl ?_
    refine Chain.cons (StepOK.load .none ty3 (.tmp rfl (fun _ => trivial))) rfl ?_
    refine Chain.cons (StepOK.lt .none (.tmp rfl (fun _ => trivial)) (.int (by decide))) rfl ?_
    refine Chain.cons (StepOK.move .none (.tmp rfl (fun _ => trivial))) rfl ?_
    refine Chain.cons (StepOK.fieldAddr (.at rfl rfl) fd48_3 hfd48_3 (.tmp rfl (fun _ => trivial))) rfl ?_
    refine Chain.cons (StepOK.load (.at rfl rfl) ty3 (.tmp rfl id)) rfl ?_
    refine Chain.cons (StepOK.lt (.at rfl rfl) (.tmp rfl id) (.int (by decide))) rfl ?_
    refine Chain.cons (StepOK.pickOr .none (.tmp rfl (fun _ => trivial)) (.tmp rfl id)) rfl ?_
    refine Chain.nil ?_
    refine Ends.then ?_
    refine Cod.weaken (.cons (t := 10) rfl (.cons (t := 65) rfl Sub.nil)) (.cons (t := 4) rfl SubB.nil) ?_
    refine Cod.cond (t := 65) rfl trivial (fun hb2 => ?_) (fun hb2 => ?_)
    · try simp only [decide_eq_true_eq, decide_eq_false_iff_not, Bool.and_eq_true, Bool.or_eq_true, Bool.not_eq_true', Bool.not_eq_false', Bool.and_eq_false_iff, Bool.or_eq_false_iff, Int.not_lt, Int.not_le, Bool.true_eq_false, Bool.false_eq_true, true_and, and_true] at hb2
      refine Cod.seq ?_
      refine Cod.region [([], none), ([4], some 4), ([], none), ([], none)] mixed (by kernel_rfl) ?_
      refine Chain.consA (StepOK.build (y := (⟨0, 0, 0, 0⟩ : Bx)) .none bu48 .nil rfl (fun M w vs h => by match vs, h with | [], _ => exact ⟨_, rfl, rep_bx_cells (by decide) (by decide) (by decide) (by decide)⟩)) rfl ?_
      refine Chain.store ty48 rfl (.tmp rfl (fun _ => trivial)) ?_
      refine Chain.consA (StepOK.assign .none .bool) rfl ?_
      refine Chain.consA (StepOK.assign .none (.int (by decide))) rfl ?_
      refine Chain.nil ?_
      refine Ends.then ?_
      refine Cod.weaken (.cons (t := 5) rfl (.cons (t := 6) rfl Sub.nil)) (.cons (t := 4) rfl SubB.nil) ?_
      refine Cod.ret ?_
      refine Ends.thenRet ?_
      refine Ends.ret3 (.inl rfl) Try.results37 (ResOK.cellB ty48 rfl ?_) (ResOK.tmp rfl trivial ?_) (ResOK.tmp rfl trivial ?_)
      all_goals (refine Imp.eq ?_; simp [hb1, comm_no hb2])
    · try simp only [decide_eq_true_eq, decide_eq_false_iff_not, Bool.and_eq_true, Bool.or_eq_true, Bool.not_eq_true', Bool.not_eq_false', Bool.and_eq_false_iff, Bool.or_eq_false_iff, Int.not_lt, Int.not_le, Bool.true_eq_false, Bool.false_eq_true, true_and, and_true] at hb2
      refine Cod.skip ?_
      refine Ends.then ?_
      refine Cod.weaken (.cons (t := 10) rfl Sub.nil) (.cons (t := 4) rfl SubB.nil) ?_
      refine Cod.seq ?_
      refine Cod.region [([], none), ([4], some 4), ([], none), ([], none)] mixed (by kernel_rfl) ?_
      refine Chain.consA (StepOK.load .none ty48 (.tmp rfl (fun _ => trivial))) rfl ?_
      refine Chain.store ty48 rfl (.tmp rfl (fun _ => trivial)) ?_
      refine Chain.consA (StepOK.assign .none .bool) rfl ?_
      refine Chain.consA (StepOK.assign .none (.int (by decide))) rfl ?_
      refine Chain.nil ?_
      refine Ends.then ?_
      refine Cod.weaken (.cons (t := 5) rfl (.cons (t := 6) rfl Sub.nil)) (.cons (t := 4) rfl SubB.nil) ?_
      refine Cod.ret ?_
      refine Ends.ret3 (.inl rfl) Try.results37 (ResOK.cellB ty48 rfl ?_) (ResOK.tmp rfl trivial ?_) (ResOK.tmp rfl trivial ?_)
      all_goals (refine Imp.eq ?_; simp [hb1, comm_yes hb2, commW])

/-- drawref1.CommonOf -/
theorem CommonOf_spec (a b : Bx) : FSpec Try.prog 38 [rep a, rep b] (tup [rep (commV a b), rep (commSome a b)]) := by
  refine FSpec.intro (n := 58) fnok38 Try.func38 rfl Try.ntmps38 rfl (fun w0 Mf => ?_)
  refine Cod.seq ?_
  refine Cod.region [([], none), ([], none), ([], some 4), ([], none)] mixed (by kernel_rfl) ?_
  refine Chain.consA (StepOK.box .none (.tmp rfl (fun _ => trivial))) rfl ?_
  refine Chain.consA (StepOK.box .none (.tmp rfl (fun _ => trivial))) rfl ?_
  refine Chain.alloc zo48 rfl rfl ?_
  refine Chain.consA (StepOK.assign .none .bool) rfl ?_
  refine Chain.nil ?_
  refine Ends.then ?_
  refine Cod.weaken (.cons (t := 2) rfl (.cons (t := 3) rfl Sub.nil)) (.cons (t := 4) rfl SubB.nil) ?_
  refine Cod.seq ?_
  refine Cod.region [] mixed (by kernel_rfl) ?_
  refine Chain.cons (StepOK.fieldAddr .none fd48_0 hfd48_0 (.tmp rfl (fun _ => trivial))) rfl ?_
  refine Chain.cons (StepOK.load .none ty3 (.tmp rfl (fun _ => trivial))) rfl ?_
  refine Chain.cons (StepOK.fieldAddr .none fd48_0 hfd48_0 (.tmp rfl (fun _ => trivial))) rfl ?_
  refine Chain.cons (StepOK.load .none ty3 (.tmp rfl (fun _ => trivial))) rfl ?_
  refine Chain.cons (StepOK.max2 .none (.tmp rfl (fun _ => trivial)) (.tmp rfl (fun _ => trivial))) rfl ?_
  refine Chain.cons (StepOK.fieldAddr .none fd48_1 hfd48_1 (.tmp rfl (fun _ => trivial))) rfl ?_
  refine Chain.cons (StepOK.load .none ty3 (.tmp rfl (fun _ => trivial))) rfl ?_
  refine Chain.cons (StepOK.fieldAddr .none fd48_1 hfd48_1 (.tmp rfl (fun _ => trivial))) rfl ?_
  refine Chain.cons (StepOK.load .none ty3 (.tmp rfl (fun _ => trivial))) rfl ?_
  refine Chain.cons (StepOK.max2 .none (.tmp rfl (fun _ => trivial)) (.tmp rfl (fun _ => trivial))) rfl ?_
  refine Chain.cons (StepOK.assign .none (.tmp rfl (fun _ => trivial))) rfl ?_
  refine Chain.cons (StepOK.assign .none (.tmp rfl (fun _ => trivial))) rfl ?_
  refine Chain.nil ?_
  refine Ends.then ?_
  refine Cod.weaken (.cons (t := 2) rfl (.cons (t := 3) rfl (.cons (t := 6) rfl (.cons (t := 7) rfl Sub.nil)))) (.cons (t := 4) rfl SubB.nil) ?_
  refine Cod.seq ?_
  refine Cod.region [([], none), ([], none), ([], none), ([], none), ([], none), ([], none), ([], none), ([], none), ([], none), ([], none), ([], none), ([], none), ([], none), ([], none), ([], none), ([], none), ([], none), ([], none), ([], none), ([], none), ([], none), ([], none), ([], none), ([], none), ([], none), ([], none), ([], none), ([], none), ([], none), ([], some 8), ([8], some 8)] mixed (by kernel_rfl) ?_
  refine Chain.consA (StepOK.move .none (.tmp rfl (fun _ => trivial))) rfl ?_
  refine Chain.consA (StepOK.move .none (.tmp rfl (fun _ => trivial))) rfl ?_
  refine Chain.consA (StepOK.fieldAddr .none fd48_0 hfd48_0 (.tmp rfl (fun _ => trivial))) rfl ?_
  refine Chain.consA (StepOK.load .none ty3 (.tmp rfl (fun _ => trivial))) rfl ?_
  refine Chain.consA (StepOK.fieldAddr .none fd48_2 hfd48_2 (.tmp rfl (fun _ => trivial))) rfl ?_
  refine Chain.consA (StepOK.load .none ty3 (.tmp rfl (fun _ => trivial))) rfl ?_
  refine Chain.consA (StepOK.addW .none (.tmp rfl (fun _ => trivial)) (.tmp rfl (fun _ => trivial))) rfl ?_
  refine Chain.consA (StepOK.fieldAddr .none fd48_0 hfd48_0 (.tmp rfl (fun _ => trivial))) rfl ?_
  refine Chain.consA (StepOK.load .none ty3 (.tmp rfl (fun _ => trivial))) rfl ?_
  refine Chain.consA (StepOK.fieldAddr .none fd48_2 hfd48_2 (.tmp rfl (fun _ => trivial))) rfl ?_
  refine Chain.consA (StepOK.load .none ty3 (.tmp rfl (fun _ => trivial))) rfl ?_
  refine Chain.consA (StepOK.addW .none (.tmp rfl (fun _ => trivial)) (.tmp rfl (fun _ => trivial))) rfl ?_
  refine Chain.consA (StepOK.min2 .none (.tmp rfl (fun _ => trivial)) (.tmp rfl (fun _ => trivial))) rfl ?_
  refine Chain.consA (StepOK.move .none (.tmp rfl (fun _ => trivial))) rfl ?_
  refine Chain.consA (StepOK.subW .none (.tmp rfl (fun _ => trivial)) (.tmp rfl (fun _ => trivial))) rfl ?_
  refine Chain.consA (StepOK.fieldAddr .none fd48_1 hfd48_1 (.tmp rfl (fun _ => trivial))) rfl ?_
  refine Chain.consA (StepOK.load .none ty3 (.tmp rfl (fun _ => trivial))) rfl ?_
  refine Chain.consA (StepOK.fieldAddr .none fd48_3 hfd48_3 (.tmp rfl (fun _ => trivial))) rfl ?_
  refine Chain.consA (StepOK.load .none ty3 (.tmp rfl (fun _ => trivial))) rfl ?_
  refine Chain.consA (StepOK.addW .none (.tmp rfl (fun _ => trivial)) (.tmp rfl (fun _ => trivial))) rfl ?_
  refine Chain.consA (StepOK.fieldAddr .none fd48_1 hfd48_1 (.tmp rfl (fun _ => trivial))) rfl ?_
  refine Chain.consA (StepOK.load .none ty3 (.tmp rfl (fun _ => trivial))) rfl ?_
  refine Chain.consA (StepOK.fieldAddr .none fd48_3 hfd48_3 (.tmp rfl (fun _ => trivial))) rfl ?_
  refine Chain.consA (StepOK.load .none ty3 (.tmp rfl (fun _ => trivial))) rfl ?_
  refine Chain.consA (StepOK.addW .none (.tmp rfl (fun _ => trivial)) (.tmp rfl (fun _ => trivial))) rfl ?_
  refine Chain.consA (StepOK.min2 .none (.tmp rfl (fun _ => trivial)) (.tmp rfl (fun _ => trivial))) rfl ?_
  refine Chain.consA (StepOK.move .none (.tmp rfl (fun _ => trivial))) rfl ?_
  refine Chain.consA (StepOK.subW .none (.tmp rfl (fun _ => trivial)) (.tmp rfl (fun _ => trivial))) rfl ?_
  refine Chain.consA (StepOK.build (y := (⟨_, _, _, _⟩ : Bx)) .none bu48 (.cons (.tmp rfl (fun _ => trivial)) (.cons (.tmp rfl (fun _ => trivial)) (.cons (.tmp rfl (fun _ => trivial)) (.cons (.tmp rfl (fun _ => trivial)) .nil)))) rfl (fun M w vs h => by obtain ⟨rfl, hi⟩ := All2.ints [_, _, _, _] vs h; exact ⟨_, rfl, rep_bx_cells (p := ⟨_, _, _, _⟩) (hi _ (.head _)) (hi _ (.tail _ (.head _))) (hi _ (.tail _ (.tail _ (.head _)))) (hi _ (.tail _ (.tail _ (.tail _ (.head _)))))⟩)) rfl ?_
  refine Chain.alloc zo48 rfl rfl ?_
  refine Chain.store ty48 rfl (.tmp rfl (fun _ => trivial)) ?_
  refine Chain.nil ?_
  refine Ends.then ?_
  refine Cod.freeze (t := 8) rfl (.cons (t := 4) rfl SubB.nil) rfl ?_
  refine Cod.weaken (.cons (t := 8) rfl Sub.nil) (.cons (t := 4) rfl SubB.nil) ?_
  refine Cod.seq ?_
  refine Cod.seq ?_
  refine Cod.region [] mixed (by kernel_rfl) ?_
  refine Chain.cons (StepOK.fieldAddr .none fd48_2 hfd48_2 (.tmp rfl (fun _ => trivial))) rfl ?_
  refine Chain.cons (StepOK.load .none ty3 (.tmp rfl (fun _ => trivial))) rfl ?_
  refine Chain.cons (StepOK.lt .none (.tmp rfl (fun _ => trivial)) (.int (by decide))) rfl ?_
  refine Chain.cons (StepOK.move .none (.tmp rfl (fun _ => trivial))) rfl ?_
  refine Chain.cons (StepOK.fieldAddr (.at rfl rfl) fd48_3 hfd48_3 (.tmp rfl (fun _ => trivial))) rfl ?_
  refine Chain.cons (StepOK.load (.at rfl rfl) ty3 (.tmp rfl id)) rfl ?_
  refine Chain.cons (StepOK.lt (.at rfl rfl) (.tmp rfl id) (.int (by decide))) rfl ?_
  refine Chain.cons (StepOK.pickOr .none (.tmp rfl (fun _ => trivial)) (.tmp rfl id)) rfl ?_
  refine Chain.nil ?_
  refine Ends.then ?_
  refine Cod.weaken (.cons (t := 8) rfl (.cons (t := 55) rfl Sub.nil)) (.cons (t := 4) rfl SubB.nil) ?_
  refine Cod.cond (t := 55) rfl trivial (fun hb1 => ?_) (fun hb1 => ?_)
  · try simp only [decide_eq_true_eq, decide_eq_false_iff_not, Bool.and_eq_true, Bool.or_eq_true, Bool.not_eq_true', Bool.not_eq_false', Bool.and_eq_false_iff, Bool.or_eq_false_iff, Int.not_lt, Int.not_le, Bool.true_eq_false, Bool.false_eq_true, true_and, and_true] at hb1
    refine Cod.seq ?_
    refine Cod.region [([], none), ([4], some 4), ([], none)] mixed (by kernel_rfl) ?_
    refine Chain.consA (StepOK.build (y := (⟨0, 0, 0, 0⟩ : Bx)) .none bu48 .nil rfl (fun M w vs h => by match vs, h with | [], _ => exact ⟨_, rfl, rep_bx_cells (by decide) (by decide) (by decide) (by decide)⟩)) rfl ?_
    refine Chain.store ty48 rfl (.tmp rfl (fun _ => trivial)) ?_
    refine Chain.consA (StepOK.assign .none .bool) rfl ?_
    refine Chain.nil ?_
    refine Ends.then ?_
    refine Cod.weaken (.cons (t := 5) rfl Sub.nil) (.cons (t := 4) rfl SubB.nil) ?_
    refine Cod.ret ?_
    refine Ends.thenRet ?_
    refine Ends.ret2 (.inl rfl) Try.results38 (ResOK.cellB ty48 rfl ?_) (ResOK.tmp rfl trivial ?_)
    all_goals (refine Imp.eq ?_; simp [comm_no hb1])
  · try simp only [decide_eq_true_eq, decide_eq_false_iff_not, Bool.and_eq_true, Bool.or_eq_true, Bool.not_eq_true', Bool.not_eq_false', Bool.and_eq_false_iff, Bool.or_eq_false_iff, Int.not_lt, Int.not_le, Bool.true_eq_false, Bool.false_eq_true, true_and, and_true] at hb1
    refine Cod.skip ?_
    refine Ends.then ?_
    refine Cod.weaken (.cons (t := 8) rfl Sub.nil) (.cons (t := 4) rfl SubB.nil) ?_
    refine Cod.seq ?_
    refine Cod.region [([], none), ([4], some 4), ([], none)] mixed (by kernel_rfl) ?_
    refine Chain.consA (StepOK.load .none ty48 (.tmp rfl (fun _ => trivial))) rfl ?_
    refine Chain.store ty48 rfl (.tmp rfl (fun _ => trivial)) ?_
    refine Chain.consA (StepOK.assign .none .bool) rfl ?_
    refine Chain.nil ?_
    refine Ends.then ?_
    refine Cod.weaken (.cons (t := 5) rfl Sub.nil) (.cons (t := 4) rfl SubB.nil) ?_
    refine Cod.ret ?_
    refine Ends.ret2 (.inl rfl) Try.results38 (ResOK.cellB ty48 rfl ?_) (ResOK.tmp rfl trivial ?_)
    all_goals (refine Imp.eq ?_; simp [comm_yes hb1, commW])

/-- geom.Gap -/
theorem Gap_spec (a b : Bx) : FSpec Try.prog 39 [rep a, rep b] (tup [rep (if bxsErr [a, b] = 0 then gapX a b else 0), rep (if bxsErr [a, b] = 0 then gapY a b else 0), rep (bxsErr [a, b])]) := by
  refine FSpec.intro (n := 53) fnok39 Try.func39 rfl Try.ntmps39 rfl (fun w0 Mf => ?_)
  refine Cod.seq ?_
  refine Cod.region [] mixed (by kernel_rfl) ?_
  refine Chain.cons (StepOK.box .none (.tmp rfl (fun _ => trivial))) rfl ?_
  refine Chain.cons (StepOK.box .none (.tmp rfl (fun _ => trivial))) rfl ?_
  refine Chain.cons (StepOK.assign .none (.int (by decide))) rfl ?_
  refine Chain.cons (StepOK.assign .none (.int (by decide))) rfl ?_
  refine Chain.cons (StepOK.assign .none (.int (by decide))) rfl ?_
  refine Chain.nil ?_
  refine Ends.then ?_
  refine Cod.weaken (.cons (t := 2) rfl (.cons (t := 3) rfl Sub.nil)) SubB.nil ?_
  refine Cod.seq ?_
  refine Cod.seq ?_
  refine Cod.region [] mixed (by kernel_rfl) ?_
  refine Chain.cons (StepOK.load .none ty48 (.tmp rfl (fun _ => trivial))) rfl ?_
  refine Chain.cons (StepOK.load .none ty48 (.tmp rfl (fun _ => trivial))) rfl ?_
  refine Chain.cons (StepOK.buildSlice (xs := [_, _]) .none sl49 ty48 hz48 (.cons (.tmp rfl (fun _ => trivial)) (.cons (.tmp rfl (fun _ => trivial)) .nil)) rfl (by decide)) rfl ?_
  refine Chain.cons (StepOK.call .none (boxes_spec _) (.cons (.tmp rfl (fun _ => trivial)) .nil)) rfl ?_
  refine Chain.cons (StepOK.assign .none (.tmp rfl (fun _ => trivial))) rfl ?_
  refine Chain.nil ?_
  refine Ends.then ?_
  refine Cod.weaken (.cons (t := 2) rfl (.cons (t := 3) rfl (.cons (t := 7) rfl Sub.nil))) SubB.nil ?_
  refine Cod.seq ?_
  refine Cod.region [] mixed (by kernel_rfl) ?_
  refine Chain.cons (StepOK.move .none (.tmp rfl (fun _ => trivial))) rfl ?_
  refine Chain.cons (StepOK.neI .none (.tmp rfl (fun _ => trivial)) (.int (by decide))) rfl ?_
  refine Chain.nil ?_
  refine Ends.then ?_
  refine Cod.weaken (.cons (t := 2) rfl (.cons (t := 3) rfl (.cons (t := 7) rfl (.cons (t := 13) rfl Sub.nil)))) SubB.nil ?_
  refine Cod.cond (t := 13) rfl trivial (fun hb1 => ?_) (fun hb1 => ?_)
  · try simp only [decide_eq_true_eq, decide_eq_false_iff_not, Bool.and_eq_true, Bool.or_eq_true, Bool.not_eq_true', Bool.not_eq_false', Bool.and_eq_false_iff, Bool.or_eq_false_iff, Int.not_lt, Int.not_le, Bool.true_eq_false, Bool.false_eq_true, true_and, and_true] at hb1
    refine Cod.seq ?_
    refine Cod.region [] mixed (by kernel_rfl) ?_
    refine Chain.cons (StepOK.move .none (.tmp rfl (fun _ => trivial))) rfl ?_
    refine Chain.cons (StepOK.assign .none (.int (by decide))) rfl ?_
    refine Chain.cons (StepOK.assign .none (.int (by decide))) rfl ?_
    refine Chain.cons (StepOK.assign .none (.tmp rfl (fun _ => trivial))) rfl ?_
    refine Chain.nil ?_
    refine Ends.then ?_
    refine Cod.weaken (.cons (t := 4) rfl (.cons (t := 5) rfl (.cons (t := 6) rfl Sub.nil))) SubB.nil ?_
    refine Cod.ret ?_
    refine Ends.thenRet ?_
    refine Ends.ret3 (.inl rfl) Try.results39 (ResOK.tmp rfl trivial ?_) (ResOK.tmp rfl trivial ?_) (ResOK.tmp rfl trivial ?_)
    all_goals (refine Imp.eq ?_; simp_all)
  · try simp only [decide_eq_true_eq, decide_eq_false_iff_not, Bool.and_eq_true, Bool.or_eq_true, Bool.not_eq_true', Bool.not_eq_false', Bool.and_eq_false_iff, Bool.or_eq_false_iff, Int.not_lt, Int.not_le, Bool.true_eq_false, Bool.false_eq_true, true_and, and_true] at hb1
    obtain ⟨hba, hbb⟩ := bxs2_in hb1; have hg := gap_eq hba hbb; unfold BxIn at hba hbb
    refine Cod.skip ?_
    refine Ends.then ?_
    refine Cod.weaken (.cons (t := 2) rfl (.cons (t := 3) rfl Sub.nil)) SubB.nil ?_
    refine Cod.seq ?_
    refine Cod.region [] mixed (by kernel_rfl) ?_
    refine Chain.cons (StepOK.fieldAddr .none fd48_0 hfd48_0 (.tmp rfl (fun _ => trivial))) rfl ?_
    refine Chain.cons (StepOK.load .none ty3 (.tmp rfl (fun _ => trivial))) rfl ?_
    refine Chain.cons (StepOK.fieldAddr .none fd48_0 hfd48_0 (.tmp rfl (fun _ => trivial))) rfl ?_
    refine Chain.cons (StepOK.load .none ty3 (.tmp rfl (fun _ => trivial))) rfl ?_
    refine Chain.cons (StepOK.max2 .none (.tmp rfl (fun _ => trivial)) (.tmp rfl (fun _ => trivial))) rfl ?_
    refine Chain.cons (StepOK.fieldAddr .none fd48_0 hfd48_0 (.tmp rfl (fun _ => trivial))) rfl ?_
    refine Chain.cons (StepOK.load .none ty3 (.tmp rfl (fun _ => trivial))) rfl ?_
    refine Chain.cons (StepOK.fieldAddr .none fd48_2 hfd48_2 (.tmp rfl (fun _ => trivial))) rfl ?_
    refine Chain.cons (StepOK.load .none ty3 (.tmp rfl (fun _ => trivial))) rfl ?_
    refine Chain.cons (StepOK.add .none (.tmp rfl (fun _ => trivial)) (.tmp rfl (fun _ => trivial)) (by intro _ h1 h2; unfold InI at *; omega)) rfl ?_
    refine Chain.cons (StepOK.fieldAddr .none fd48_0 hfd48_0 (.tmp rfl (fun _ => trivial))) rfl ?_
    refine Chain.cons (StepOK.load .none ty3 (.tmp rfl (fun _ => trivial))) rfl ?_
    refine Chain.cons (StepOK.fieldAddr .none fd48_2 hfd48_2 (.tmp rfl (fun _ => trivial))) rfl ?_
    refine Chain.cons (StepOK.load .none ty3 (.tmp rfl (fun _ => trivial))) rfl ?_
    refine Chain.cons (StepOK.add .none (.tmp rfl (fun _ => trivial)) (.tmp rfl (fun _ => trivial)) (by intro _ h1 h2; unfold InI at *; omega)) rfl ?_
    refine Chain.cons (StepOK.min2 .none (.tmp rfl (fun _ => trivial)) (.tmp rfl (fun _ => trivial))) rfl ?_
    refine Chain.cons (StepOK.sub .none (.tmp rfl (fun _ => trivial)) (.tmp rfl (fun _ => trivial)) (by intro _ h1 h2; unfold InI at *; omega)) rfl ?_
    refine Chain.cons (StepOK.assign .none (.tmp rfl (fun _ => trivial))) rfl ?_
    refine Chain.nil ?_
    refine Ends.then ?_
    refine Cod.weaken (.cons (t := 2) rfl (.cons (t := 3) rfl (.cons (t := 4) rfl Sub.nil))) SubB.nil ?_
    refine Cod.seq ?_
    refine Cod.region [] mixed (by kernel_rfl) ?_
    refine Chain.cons (StepOK.fieldAddr .none fd48_1 hfd48_1 (.tmp rfl (fun _ => trivial))) rfl ?_
    refine Chain.cons (StepOK.load .none ty3 (.tmp rfl (fun _ => trivial))) rfl ?_
    refine Chain.cons (StepOK.fieldAddr .none fd48_1 hfd48_1 (.tmp rfl (fun _ => trivial))) rfl ?_
    refine Chain.cons (StepOK.load .none ty3 (.tmp rfl (fun _ => trivial))) rfl ?_
    refine Chain.cons (StepOK.max2 .none (.tmp rfl (fun _ => trivial)) (.tmp rfl (fun _ => trivial))) rfl ?_
    refine Chain.cons (StepOK.fieldAddr .none fd48_1 hfd48_1 (.tmp rfl (fun _ => trivial))) rfl ?_
    refine Chain.cons (StepOK.load .none ty3 (.tmp rfl (fun _ => trivial))) rfl ?_
    refine Chain.cons (StepOK.fieldAddr .none fd48_3 hfd48_3 (.tmp rfl (fun _ => trivial))) rfl ?_
    refine Chain.cons (StepOK.load .none ty3 (.tmp rfl (fun _ => trivial))) rfl ?_
    refine Chain.cons (StepOK.add .none (.tmp rfl (fun _ => trivial)) (.tmp rfl (fun _ => trivial)) (by intro _ h1 h2; unfold InI at *; omega)) rfl ?_
    refine Chain.cons (StepOK.fieldAddr .none fd48_1 hfd48_1 (.tmp rfl (fun _ => trivial))) rfl ?_
    refine Chain.cons (StepOK.load .none ty3 (.tmp rfl (fun _ => trivial))) rfl ?_
    refine Chain.cons (StepOK.fieldAddr .none fd48_3 hfd48_3 (.tmp rfl (fun _ => trivial))) rfl ?_
    refine Chain.cons (StepOK.load .none ty3 (.tmp rfl (fun _ => trivial))) rfl ?_
    refine Chain.cons (StepOK.add .none (.tmp rfl (fun _ => trivial)) (.tmp rfl (fun _ => trivial)) (by intro _ h1 h2; unfold InI at *; omega)) rfl ?_
    refine Chain.cons (StepOK.min2 .none (.tmp rfl (fun _ => trivial)) (.tmp rfl (fun _ => trivial))) rfl ?_
    refine Chain.cons (StepOK.sub .none (.tmp rfl (fun _ => trivial)) (.tmp rfl (fun _ => trivial)) (by intro _ h1 h2; unfold InI at *; omega)) rfl ?_
    refine Chain.cons (StepOK.assign .none (.tmp rfl (fun _ => trivial))) rfl ?_
    refine Chain.nil ?_
    refine Ends.then ?_
    refine Cod.weaken (.cons (t := 4) rfl (.cons (t := 5) rfl Sub.nil)) SubB.nil ?_
    refine Cod.seq ?_
    refine Cod.region [] mixed (by kernel_rfl) ?_
    refine Chain.cons (StepOK.move .none (.tmp rfl (fun _ => trivial))) rfl ?_
    refine Chain.cons (StepOK.max2 .none (.tmp rfl (fun _ => trivial)) (.int (by decide))) rfl ?_
    refine Chain.cons (StepOK.move .none (.tmp rfl (fun _ => trivial))) rfl ?_
    refine Chain.cons (StepOK.max2 .none (.tmp rfl (fun _ => trivial)) (.int (by decide))) rfl ?_
    refine Chain.cons (StepOK.assign .none (.tmp rfl (fun _ => trivial))) rfl ?_
    refine Chain.cons (StepOK.assign .none (.tmp rfl (fun _ => trivial))) rfl ?_
    refine Chain.cons (StepOK.assign .none (.int (by decide))) rfl ?_
    refine Chain.nil ?_
    refine Ends.then ?_
    refine Cod.weaken (.cons (t := 4) rfl (.cons (t := 5) rfl (.cons (t := 6) rfl Sub.nil))) SubB.nil ?_
    refine Cod.ret ?_
    refine Ends.ret3 (.inl rfl) Try.results39 (ResOK.tmp rfl trivial ?_) (ResOK.tmp rfl trivial ?_) (ResOK.tmp rfl trivial ?_)
    all_goals (refine Imp.eq ?_; first | (rw [if_pos hb1]; exact hg.1) | (rw [if_pos hb1]; exact hg.2) | exact hb1.symm)

/-- drawref1.GapOf -/
theorem GapOf_spec (a b : Bx) : FSpec Try.prog 40 [rep a, rep b] (tup [rep (gapX a b), rep (gapY a b)]) := by
  refine FSpec.intro (n := 40) fnok40 Try.func40 rfl Try.ntmps40 rfl (fun w0 Mf => ?_)
  refine Cod.seq ?_
  refine Cod.region [] mixed (by kernel_rfl) ?_
  refine Chain.cons (StepOK.box .none (.tmp rfl (fun _ => trivial))) rfl ?_
  refine Chain.cons (StepOK.box .none (.tmp rfl (fun _ => trivial))) rfl ?_
  refine Chain.cons (StepOK.assign .none (.int (by decide))) rfl ?_
  refine Chain.cons (StepOK.assign .none (.int (by decide))) rfl ?_
  refine Chain.nil ?_
  refine Ends.then ?_
  refine Cod.weaken (.cons (t := 2) rfl (.cons (t := 3) rfl Sub.nil)) SubB.nil ?_
  refine Cod.seq ?_
  refine Cod.region [] mixed (by kernel_rfl) ?_
  refine Chain.cons (StepOK.fieldAddr .none fd48_0 hfd48_0 (.tmp rfl (fun _ => trivial))) rfl ?_
  refine Chain.cons (StepOK.load .none ty3 (.tmp rfl (fun _ => trivial))) rfl ?_
  refine Chain.cons (StepOK.fieldAddr .none fd48_0 hfd48_0 (.tmp rfl (fun _ => trivial))) rfl ?_
  refine Chain.cons (StepOK.load .none ty3 (.tmp rfl (fun _ => trivial))) rfl ?_
  refine Chain.cons (StepOK.subW .none (.tmp rfl (fun _ => trivial)) (.tmp rfl (fun _ => trivial))) rfl ?_
  refine Chain.cons (StepOK.fieldAddr .none fd48_2 hfd48_2 (.tmp rfl (fun _ => trivial))) rfl ?_
  refine Chain.cons (StepOK.load .none ty3 (.tmp rfl (fun _ => trivial))) rfl ?_
  refine Chain.cons (StepOK.subW .none (.tmp rfl (fun _ => trivial)) (.tmp rfl (fun _ => trivial))) rfl ?_
  refine Chain.cons (StepOK.fieldAddr .none fd48_0 hfd48_0 (.tmp rfl (fun _ => trivial))) rfl ?_
  refine Chain.cons (StepOK.load .none ty3 (.tmp rfl (fun _ => trivial))) rfl ?_
  refine Chain.cons (StepOK.fieldAddr .none fd48_0 hfd48_0 (.tmp rfl (fun _ => trivial))) rfl ?_
  refine Chain.cons (StepOK.load .none ty3 (.tmp rfl (fun _ => trivial))) rfl ?_
  refine Chain.cons (StepOK.subW .none (.tmp rfl (fun _ => trivial)) (.tmp rfl (fun _ => trivial))) rfl ?_
  refine Chain.cons (StepOK.fieldAddr .none fd48_2 hfd48_2 (.tmp rfl (fun _ => trivial))) rfl ?_
  refine Chain.cons (StepOK.load .none ty3 (.tmp rfl (fun _ => trivial))) rfl ?_
  refine Chain.cons (StepOK.subW .none (.tmp rfl (fun _ => trivial)) (.tmp rfl (fun _ => trivial))) rfl ?_
  refine Chain.cons (StepOK.max3 .none (.int (by decide)) (.tmp rfl (fun _ => trivial)) (.tmp rfl (fun _ => trivial))) rfl ?_
  refine Chain.cons (StepOK.fieldAddr .none fd48_1 hfd48_1 (.tmp rfl (fun _ => trivial))) rfl ?_
  refine Chain.cons (StepOK.load .none ty3 (.tmp rfl (fun _ => trivial))) rfl ?_
  refine Chain.cons (StepOK.fieldAddr .none fd48_1 hfd48_1 (.tmp rfl (fun _ => trivial))) rfl ?_
  refine Chain.cons (StepOK.load .none ty3 (.tmp rfl (fun _ => trivial))) rfl ?_
  refine Chain.cons (StepOK.subW .none (.tmp rfl (fun _ => trivial)) (.tmp rfl (fun _ => trivial))) rfl ?_
  refine Chain.cons (StepOK.fieldAddr .none fd48_3 hfd48_3 (.tmp rfl (fun _ => trivial))) rfl ?_
  refine Chain.cons (StepOK.load .none ty3 (.tmp rfl (fun _ => trivial))) rfl ?_
  refine Chain.cons (StepOK.subW .none (.tmp rfl (fun _ => trivial)) (.tmp rfl (fun _ => trivial))) rfl ?_
  refine Chain.cons (StepOK.fieldAddr .none fd48_1 hfd48_1 (.tmp rfl (fun _ => trivial))) rfl ?_
  refine Chain.cons (StepOK.load .none ty3 (.tmp rfl (fun _ => trivial))) rfl ?_
  refine Chain.cons (StepOK.fieldAddr .none fd48_1 hfd48_1 (.tmp rfl (fun _ => trivial))) rfl ?_
  refine Chain.cons (StepOK.load .none ty3 (.tmp rfl (fun _ => trivial))) rfl ?_
  refine Chain.cons (StepOK.subW .none (.tmp rfl (fun _ => trivial)) (.tmp rfl (fun _ => trivial))) rfl ?_
  refine Chain.cons (StepOK.fieldAddr .none fd48_3 hfd48_3 (.tmp rfl (fun _ => trivial))) rfl ?_
  refine Chain.cons (StepOK.load .none ty3 (.tmp rfl (fun _ => trivial))) rfl ?_
  refine Chain.cons (StepOK.subW .none (.tmp rfl (fun _ => trivial)) (.tmp rfl (fun _ => trivial))) rfl ?_
  refine Chain.cons (StepOK.max3 .none (.int (by decide)) (.tmp rfl (fun _ => trivial)) (.tmp rfl (fun _ => trivial))) rfl ?_
  refine Chain.cons (StepOK.assign .none (.tmp rfl (fun _ => trivial))) rfl ?_
  refine Chain.cons (StepOK.assign .none (.tmp rfl (fun _ => trivial))) rfl ?_
  refine Chain.nil ?_
  refine Ends.then ?_
  refine Cod.weaken (.cons (t := 4) rfl (.cons (t := 5) rfl Sub.nil)) SubB.nil ?_
  refine Cod.ret ?_
  refine Ends.ret2 (.inl rfl) Try.results40 (ResOK.tmp rfl trivial ?_) (ResOK.tmp rfl trivial ?_)
  all_goals (exact Imp.refl)

/-- geom.Grow -/
theorem Grow_spec (b : Bx) (n : Int) : FSpec Try.prog 41 [rep b, rep n] (tup [rep (growV b n), rep (growE b n)]) := by
  refine FSpec.intro (n := 57) fnok41 Try.func41 rfl Try.ntmps41 rfl (fun w0 Mf => ?_)
  refine Cod.seq ?_
  refine Cod.region [([], none), ([], some 4), ([], none)] mixed (by kernel_rfl) ?_
  refine Chain.consA (StepOK.box .none (.tmp rfl (fun _ => trivial))) rfl ?_
  refine Chain.alloc zo48 rfl rfl ?_
  refine Chain.consA (StepOK.assign .none (.int (by decide))) rfl ?_
  refine Chain.nil ?_
  refine Ends.then ?_
  refine Cod.weaken (.cons (t := 1) rfl (.cons (t := 2) rfl Sub.nil)) (.cons (t := 4) rfl SubB.nil) ?_
  refine Cod.seq ?_
  refine Cod.seq ?_
  refine Cod.region [] mixed (by kernel_rfl) ?_
  refine Chain.cons (StepOK.load .none ty48 (.tmp rfl (fun _ => trivial))) rfl ?_
  refine Chain.cons (StepOK.call .none (CheckBox_spec _) (.cons (.tmp rfl (fun _ => trivial)) .nil)) rfl ?_
  refine Chain.cons (StepOK.assign .none (.tmp rfl (fun _ => trivial))) rfl ?_
  refine Chain.nil ?_
  refine Ends.then ?_
  refine Cod.weaken (.cons (t := 1) rfl (.cons (t := 2) rfl (.cons (t := 6) rfl Sub.nil))) (.cons (t := 4) rfl SubB.nil) ?_
  refine Cod.seq ?_
  refine Cod.region [] mixed (by kernel_rfl) ?_
  refine Chain.cons (StepOK.move .none (.tmp rfl (fun _ => trivial))) rfl ?_
  refine Chain.cons (StepOK.neI .none (.tmp rfl (fun _ => trivial)) (.int (by decide))) rfl ?_
  refine Chain.nil ?_
  refine Ends.then ?_
  refine Cod.weaken (.cons (t := 1) rfl (.cons (t := 2) rfl (.cons (t := 6) rfl (.cons (t := 12) rfl Sub.nil)))) (.cons (t := 4) rfl SubB.nil) ?_
  refine Cod.cond (t := 12) rfl trivial (fun hb1 => ?_) (fun hb1 => ?_)
  · try simp only [decide_eq_true_eq, decide_eq_false_iff_not, Bool.and_eq_true, Bool.or_eq_true, Bool.not_eq_true', Bool.not_eq_false', Bool.and_eq_false_iff, Bool.or_eq_false_iff, Int.not_lt, Int.not_le, Bool.true_eq_false, Bool.false_eq_true, true_and, and_true] at hb1
    refine Cod.seq ?_
    refine Cod.region [([], none), ([], none), ([4], some 4), ([], none)] mixed (by kernel_rfl) ?_
    refine Chain.consA (StepOK.build (y := (⟨0, 0, 0, 0⟩ : Bx)) .none bu48 .nil rfl (fun M w vs h => by match vs, h with | [], _ => exact ⟨_, rfl, rep_bx_cells (by decide) (by decide) (by decide) (by decide)⟩)) rfl ?_
    refine Chain.consA (StepOK.move .none (.tmp rfl (fun _ => trivial))) rfl ?_
    refine Chain.store ty48 rfl (.tmp rfl (fun _ => trivial)) ?_
    refine Chain.consA (StepOK.assign .none (.tmp rfl (fun _ => trivial))) rfl ?_
    refine Chain.nil ?_
    refine Ends.then ?_
    refine Cod.weaken (.cons (t := 5) rfl Sub.nil) (.cons (t := 4) rfl SubB.nil) ?_
    refine Cod.ret ?_
    refine Ends.thenRet ?_
    refine Ends.ret2 (.inl rfl) Try.results41 (ResOK.cellB ty48 rfl ?_) (ResOK.tmp rfl trivial ?_)
    all_goals (refine Imp.eq ?_; simp [growV, growE, hb1])
  · try simp only [decide_eq_true_eq, decide_eq_false_iff_not, Bool.and_eq_true, Bool.or_eq_true, Bool.not_eq_true', Bool.not_eq_false', Bool.and_eq_false_iff, Bool.or_eq_false_iff, Int.not_lt, Int.not_le, Bool.true_eq_false, Bool.false_eq_true, true_and, and_true] at hb1
    have hbi := bxErr_in hb1; unfold BxIn at hbi
    refine Cod.skip ?_
    refine Ends.then ?_
    refine Cod.weaken (.cons (t := 1) rfl (.cons (t := 2) rfl Sub.nil)) (.cons (t := 4) rfl SubB.nil) ?_
    refine Cod.seq ?_
    refine Cod.seq ?_
    refine Cod.region [] mixed (by kernel_rfl) ?_
    refine Chain.cons (StepOK.move .none (.tmp rfl (fun _ => trivial))) rfl ?_
    refine Chain.cons (StepOK.lt .none (.tmp rfl (fun _ => trivial)) (.int (by decide))) rfl ?_
    refine Chain.cons (StepOK.move .none (.tmp rfl (fun _ => trivial))) rfl ?_
    refine Chain.cons (StepOK.move (.at rfl rfl) (.tmp rfl (fun _ => trivial))) rfl ?_
    refine Chain.cons (StepOK.gt (.at rfl rfl) (.tmp rfl id) (.int (by decide))) rfl ?_
    refine Chain.cons (StepOK.pickOr .none (.tmp rfl (fun _ => trivial)) (.tmp rfl id)) rfl ?_
    refine Chain.nil ?_
    refine Ends.then ?_
    refine Cod.weaken (.cons (t := 1) rfl (.cons (t := 2) rfl (.cons (t := 20) rfl Sub.nil))) (.cons (t := 4) rfl SubB.nil) ?_
    refine Cod.cond (t := 20) rfl trivial (fun hb2 => ?_) (fun hb2 => ?_)
    · try simp only [decide_eq_true_eq, decide_eq_false_iff_not, Bool.and_eq_true, Bool.or_eq_true, Bool.not_eq_true', Bool.not_eq_false', Bool.and_eq_false_iff, Bool.or_eq_false_iff, Int.not_lt, Int.not_le, Bool.true_eq_false, Bool.false_eq_true, true_and, and_true] at hb2
      refine Cod.seq ?_
      refine Cod.region [([], none), ([4], some 4), ([], none)] mixed (by kernel_rfl) ?_
      refine Chain.consA (StepOK.build (y := (⟨0, 0, 0, 0⟩ : Bx)) .none bu48 .nil rfl (fun M w vs h => by match vs, h with | [], _ => exact ⟨_, rfl, rep_bx_cells (by decide) (by decide) (by decide) (by decide)⟩)) rfl ?_
      refine Chain.store ty48 rfl (.tmp rfl (fun _ => trivial)) ?_
      refine Chain.consA (StepOK.assign .none (.int (by decide))) rfl ?_
      refine Chain.nil ?_
      refine Ends.then ?_
      refine Cod.weaken (.cons (t := 5) rfl Sub.nil) (.cons (t := 4) rfl SubB.nil) ?_
      refine Cod.ret ?_
      refine Ends.thenRet ?_
      refine Ends.ret2 (.inl rfl) Try.results41 (ResOK.cellB ty48 rfl ?_) (ResOK.tmp rfl trivial ?_)
      all_goals (refine Imp.eq ?_; have hg : ¬ (-20000 ≤ n ∧ n ≤ 20000) := (by omega); simp [growV, growE, hb1, if_neg hg])
    · try simp only [decide_eq_true_eq, decide_eq_false_iff_not, Bool.and_eq_true, Bool.or_eq_true, Bool.not_eq_true', Bool.not_eq_false', Bool.and_eq_false_iff, Bool.or_eq_false_iff, Int.not_lt, Int.not_le, Bool.true_eq_false, Bool.false_eq_true, true_and, and_true] at hb2
      have hn : -20000 ≤ n ∧ n ≤ 20000 := by omega
      refine Cod.skip ?_
      refine Ends.then ?_
      refine Cod.weaken (.cons (t := 1) rfl (.cons (t := 2) rfl Sub.nil)) (.cons (t := 4) rfl SubB.nil) ?_
      refine Cod.seq ?_
      refine Cod.region [([], none), ([], none), ([], none), ([], none), ([], none), ([], none), ([], none), ([], none), ([], none), ([], none), ([], none), ([], none), ([], none), ([], none), ([], none), ([], none), ([], none), ([], none), ([], none), ([], some 7), ([7], some 7)] mixed (by kernel_rfl) ?_
      refine Chain.consA (StepOK.fieldAddr .none fd48_0 hfd48_0 (.tmp rfl (fun _ => trivial))) rfl ?_
      refine Chain.consA (StepOK.load .none ty3 (.tmp rfl (fun _ => trivial))) rfl ?_
      refine Chain.consA (StepOK.move .none (.tmp rfl (fun _ => trivial))) rfl ?_
      refine Chain.consA (StepOK.sub .none (.tmp rfl (fun _ => trivial)) (.tmp rfl (fun _ => trivial)) (by intro _ h1 h2; unfold InI at *; omega)) rfl ?_
      refine Chain.consA (StepOK.fieldAddr .none fd48_1 hfd48_1 (.tmp rfl (fun _ => trivial))) rfl ?_
      refine Chain.consA (StepOK.load .none ty3 (.tmp rfl (fun _ => trivial))) rfl ?_
      refine Chain.consA (StepOK.move .none (.tmp rfl (fun _ => trivial))) rfl ?_
      refine Chain.consA (StepOK.sub .none (.tmp rfl (fun _ => trivial)) (.tmp rfl (fun _ => trivial)) (by intro _ h1 h2; unfold InI at *; omega)) rfl ?_
      refine Chain.consA (StepOK.fieldAddr .none fd48_2 hfd48_2 (.tmp rfl (fun _ => trivial))) rfl ?_
      refine Chain.consA (StepOK.load .none ty3 (.tmp rfl (fun _ => trivial))) rfl ?_
      refine Chain.consA (StepOK.move .none (.tmp rfl (fun _ => trivial))) rfl ?_
      refine Chain.consA (StepOK.mul .none (.int (by decide)) (.tmp rfl (fun _ => trivial)) (by intro _ h1 h2; unfold InI at *; omega)) rfl ?_
      refine Chain.consA (StepOK.add .none (.tmp rfl (fun _ => trivial)) (.tmp rfl (fun _ => trivial)) (by intro _ h1 h2; unfold InI at *; omega)) rfl ?_
      refine Chain.consA (StepOK.fieldAddr .none fd48_3 hfd48_3 (.tmp rfl (fun _ => trivial))) rfl ?_
      refine Chain.consA (StepOK.load .none ty3 (.tmp rfl (fun _ => trivial))) rfl ?_
      refine Chain.consA (StepOK.move .none (.tmp rfl (fun _ => trivial))) rfl ?_
      refine Chain.consA (StepOK.mul .none (.int (by decide)) (.tmp rfl (fun _ => trivial)) (by intro _ h1 h2; unfold InI at *; omega)) rfl ?_
      refine Chain.consA (StepOK.add .none (.tmp rfl (fun _ => trivial)) (.tmp rfl (fun _ => trivial)) (by intro _ h1 h2; unfold InI at *; omega)) rfl ?_
      refine Chain.consA (StepOK.build (y := (⟨_, _, _, _⟩ : Bx)) .none bu48 (.cons (.tmp rfl (fun _ => trivial)) (.cons (.tmp rfl (fun _ => trivial)) (.cons (.tmp rfl (fun _ => trivial)) (.cons (.tmp rfl (fun _ => trivial)) .nil)))) rfl (fun M w vs h => by obtain ⟨rfl, hi⟩ := All2.ints [_, _, _, _] vs h; exact ⟨_, rfl, rep_bx_cells (p := ⟨_, _, _, _⟩) (hi _ (.head _)) (hi _ (.tail _ (.head _))) (hi _ (.tail _ (.tail _ (.head _)))) (hi _ (.tail _ (.tail _ (.tail _ (.head _)))))⟩)) rfl ?_
      refine Chain.alloc zo48 rfl rfl ?_
      refine Chain.store ty48 rfl (.tmp rfl (fun _ => trivial)) ?_
      refine Chain.nil ?_
      refine Ends.then ?_
      refine Cod.freeze (t := 7) rfl (.cons (t := 4) rfl SubB.nil) rfl ?_
      refine Cod.weaken (.cons (t := 7) rfl Sub.nil) (.cons (t := 4) rfl SubB.nil) ?_
      refine Cod.seq ?_
      refine Cod.seq ?_
      refine Cod.region [] mixed (by kernel_rfl) ?_
      refine Chain.cons (StepOK.fieldAddr .none fd48_2 hfd48_2 (.tmp rfl (fun _ => trivial))) rfl ?_
      refine Chain.cons (StepOK.load .none ty3 (.tmp rfl (fun _ => trivial))) rfl ?_
      refine Chain.cons (StepOK.lt .none (.tmp rfl (fun _ => trivial)) (.int (by decide))) rfl ?_
      refine Chain.cons (StepOK.move .none (.tmp rfl (fun _ => trivial))) rfl ?_
      refine Chain.cons (StepOK.fieldAddr (.at rfl rfl) fd48_3 hfd48_3 (.tmp rfl (fun _ => trivial))) rfl ?_
      refine Chain.cons (StepOK.load (.at rfl rfl) ty3 (.tmp rfl id)) rfl ?_
      refine Chain.cons (StepOK.lt (.at rfl rfl) (.tmp rfl id) (.int (by decide))) rfl ?_
      refine Chain.cons (StepOK.pickOr .none (.tmp rfl (fun _ => trivial)) (.tmp rfl id)) rfl ?_
      refine Chain.nil ?_
      refine Ends.then ?_
      refine Cod.weaken (.cons (t := 7) rfl (.cons (t := 48) rfl Sub.nil)) (.cons (t := 4) rfl SubB.nil) ?_
      refine Cod.cond (t := 48) rfl trivial (fun hb3 => ?_) (fun hb3 => ?_)
      · try simp only [decide_eq_true_eq, decide_eq_false_iff_not, Bool.and_eq_true, Bool.or_eq_true, Bool.not_eq_true', Bool.not_eq_false', Bool.and_eq_false_iff, Bool.or_eq_false_iff, Int.not_lt, Int.not_le, Bool.true_eq_false, Bool.false_eq_true, true_and, and_true] at hb3
        refine Cod.seq ?_
        refine Cod.region [([], none), ([4], some 4), ([], none)] mixed (by kernel_rfl) ?_
        refine Chain.consA (StepOK.build (y := (⟨0, 0, 0, 0⟩ : Bx)) .none bu48 .nil rfl (fun M w vs h => by match vs, h with | [], _ => exact ⟨_, rfl, rep_bx_cells (by decide) (by decide) (by decide) (by decide)⟩)) rfl ?_
        refine Chain.store ty48 rfl (.tmp rfl (fun _ => trivial)) ?_
        refine Chain.consA (StepOK.assign .none (.int (by decide))) rfl ?_
        refine Chain.nil ?_
        refine Ends.then ?_
        refine Cod.weaken (.cons (t := 5) rfl Sub.nil) (.cons (t := 4) rfl SubB.nil) ?_
        refine Cod.ret ?_
        refine Ends.thenRet ?_
        refine Ends.ret2 (.inl rfl) Try.results41 (ResOK.cellB ty48 rfl ?_) (ResOK.tmp rfl trivial ?_)
        all_goals (refine Imp.eq ?_; have hg : (growF b n).w < 1 ∨ (growF b n).h < 1 := (by unfold growF; simpa using hb3); simp [growV, growE, hb1, if_pos hn, if_pos hg])
      · try simp only [decide_eq_true_eq, decide_eq_false_iff_not, Bool.and_eq_true, Bool.or_eq_true, Bool.not_eq_true', Bool.not_eq_false', Bool.and_eq_false_iff, Bool.or_eq_false_iff, Int.not_lt, Int.not_le, Bool.true_eq_false, Bool.false_eq_true, true_and, and_true] at hb3
        refine Cod.skip ?_
        refine Ends.then ?_
        refine Cod.weaken (.cons (t := 7) rfl Sub.nil) (.cons (t := 4) rfl SubB.nil) ?_
        refine Cod.seq ?_
        refine Cod.seq ?_
        refine Cod.region [] mixed (by kernel_rfl) ?_
        refine Chain.cons (StepOK.load .none ty48 (.tmp rfl (fun _ => trivial))) rfl ?_
        refine Chain.cons (StepOK.call .none (CheckBox_spec _) (.cons (.tmp rfl (fun _ => trivial)) .nil)) rfl ?_
        refine Chain.cons (StepOK.assign .none (.tmp rfl (fun _ => trivial))) rfl ?_
        refine Chain.nil ?_
        refine Ends.then ?_
        refine Cod.weaken (.cons (t := 7) rfl (.cons (t := 8) rfl Sub.nil)) (.cons (t := 4) rfl SubB.nil) ?_
        refine Cod.seq ?_
        refine Cod.region [] mixed (by kernel_rfl) ?_
        refine Chain.cons (StepOK.move .none (.tmp rfl (fun _ => trivial))) rfl ?_
        refine Chain.cons (StepOK.neI .none (.tmp rfl (fun _ => trivial)) (.int (by decide))) rfl ?_
        refine Chain.nil ?_
        refine Ends.then ?_
        refine Cod.weaken (.cons (t := 7) rfl (.cons (t := 8) rfl (.cons (t := 53) rfl Sub.nil))) (.cons (t := 4) rfl SubB.nil) ?_
        refine Cod.cond (t := 53) rfl trivial (fun hb4 => ?_) (fun hb4 => ?_)
        · try simp only [decide_eq_true_eq, decide_eq_false_iff_not, Bool.and_eq_true, Bool.or_eq_true, Bool.not_eq_true', Bool.not_eq_false', Bool.and_eq_false_iff, Bool.or_eq_false_iff, Int.not_lt, Int.not_le, Bool.true_eq_false, Bool.false_eq_true, true_and, and_true] at hb4
          refine Cod.seq ?_
          refine Cod.region [([], none), ([], none), ([4], some 4), ([], none)] mixed (by kernel_rfl) ?_
          refine Chain.consA (StepOK.build (y := (⟨0, 0, 0, 0⟩ : Bx)) .none bu48 .nil rfl (fun M w vs h => by match vs, h with | [], _ => exact ⟨_, rfl, rep_bx_cells (by decide) (by decide) (by decide) (by decide)⟩)) rfl ?_
          refine Chain.consA (StepOK.move .none (.tmp rfl (fun _ => trivial))) rfl ?_
          refine Chain.store ty48 rfl (.tmp rfl (fun _ => trivial)) ?_
          refine Chain.consA (StepOK.assign .none (.tmp rfl (fun _ => trivial))) rfl ?_
          refine Chain.nil ?_
          refine Ends.then ?_
          refine Cod.weaken (.cons (t := 5) rfl Sub.nil) (.cons (t := 4) rfl SubB.nil) ?_
          refine Cod.ret ?_
          refine Ends.thenRet ?_
          refine Ends.ret2 (.inl rfl) Try.results41 (ResOK.cellB ty48 rfl ?_) (ResOK.tmp rfl trivial ?_)
          all_goals (refine Imp.eq ?_; have hg : ¬ ((growF b n).w < 1 ∨ (growF b n).h < 1) := (by unfold growF; simp only; omega); have he : growE b n = bxErr (growF b n) := (by unfold growE; rw [if_pos hb1, if_pos hn, if_neg hg]); first | exact he.symm | (rw [growV, he, if_neg (by exact hb4)]))
        · try simp only [decide_eq_true_eq, decide_eq_false_iff_not, Bool.and_eq_true, Bool.or_eq_true, Bool.not_eq_true', Bool.not_eq_false', Bool.and_eq_false_iff, Bool.or_eq_false_iff, Int.not_lt, Int.not_le, Bool.true_eq_false, Bool.false_eq_true, true_and, and_true] at hb4
          refine Cod.skip ?_
          refine Ends.then ?_
          refine Cod.weaken (.cons (t := 7) rfl Sub.nil) (.cons (t := 4) rfl SubB.nil) ?_
          refine Cod.seq ?_
          refine Cod.region [([], none), ([4], some 4), ([], none)] mixed (by kernel_rfl) ?_
          refine Chain.consA (StepOK.load .none ty48 (.tmp rfl (fun _ => trivial))) rfl ?_
          refine Chain.store ty48 rfl (.tmp rfl (fun _ => trivial)) ?_
          refine Chain.consA (StepOK.assign .none (.int (by decide))) rfl ?_
          refine Chain.nil ?_
          refine Ends.then ?_
          refine Cod.weaken (.cons (t := 5) rfl Sub.nil) (.cons (t := 4) rfl SubB.nil) ?_
          refine Cod.ret ?_
          refine Ends.ret2 (.inl rfl) Try.results41 (ResOK.cellB ty48 rfl ?_) (ResOK.tmp rfl trivial ?_)
          all_goals (refine Imp.eq ?_; have hg : ¬ ((growF b n).w < 1 ∨ (growF b n).h < 1) := (by unfold growF; simp only; omega); have he : growE b n = bxErr (growF b n) := (by unfold growE; rw [if_pos hb1, if_pos hn, if_neg hg]); first | (rw [he]; exact hb4.symm) | (rw [growV, he, if_pos (by exact hb4)]; rfl))

/-- drawlaw1.is[api.Box] -/
theorem is_Bx (got : Bx) (e want : Int) (x : Bx) (c : Prop) : (want = 0 → c) → FSpec Try.prog 35 [rep got, rep e, rep want, thunk Try.prog c x] (rep (isE (⟨0, 0, 0, 0⟩ : Bx) got e want x)) := by
  intro hpre
  refine FSpec.intro (n := 28) fnok35 Try.func35 rfl Try.ntmps35 rfl (fun w0 Mf => ?_)
  refine Cod.seq ?_
  refine Cod.region [] mixed (by kernel_rfl) ?_
  refine Chain.cons (StepOK.box .none (.tmp rfl (fun _ => trivial))) rfl ?_
  refine Chain.cons (StepOK.assign .none .bool) rfl ?_
  refine Chain.nil ?_
  refine Ends.then ?_
  refine Cod.weaken (.cons (t := 1) rfl (.cons (t := 2) rfl (.cons (t := 3) rfl (.cons (t := 4) rfl Sub.nil)))) SubB.nil ?_
  refine Cod.seq ?_
  refine Cod.region [([], some 9)] mixed (by kernel_rfl) ?_
  refine Chain.alloc zo48 rfl rfl ?_
  refine Chain.nil ?_
  refine Ends.then ?_
  refine Cod.freeze (t := 9) rfl SubB.nil rfl ?_
  refine Cod.weaken (.cons (t := 1) rfl (.cons (t := 2) rfl (.cons (t := 3) rfl (.cons (t := 4) rfl (.cons (t := 9) rfl Sub.nil))))) SubB.nil ?_
  refine Cod.seq ?_
  refine Cod.seq ?_
  refine Cod.region [] mixed (by kernel_rfl) ?_
  refine Chain.cons (StepOK.move .none (.tmp rfl (fun _ => trivial))) rfl ?_
  refine Chain.cons (StepOK.neI .none (.tmp rfl (fun _ => trivial)) (.int (by decide))) rfl ?_
  refine Chain.nil ?_
  refine Ends.then ?_
  refine Cod.weaken (.cons (t := 1) rfl (.cons (t := 2) rfl (.cons (t := 3) rfl (.cons (t := 4) rfl (.cons (t := 9) rfl (.cons (t := 11) rfl Sub.nil)))))) SubB.nil ?_
  refine Cod.cond (t := 11) rfl trivial (fun hb1 => ?_) (fun hb1 => ?_)
  · try simp only [decide_eq_true_eq, decide_eq_false_iff_not, Bool.and_eq_true, Bool.or_eq_true, Bool.not_eq_true', Bool.not_eq_false', Bool.and_eq_false_iff, Bool.or_eq_false_iff, Int.not_lt, Int.not_le, Bool.true_eq_false, Bool.false_eq_true, true_and, and_true] at hb1
    refine Cod.seq ?_
    refine Cod.region [] mixed (by kernel_rfl) ?_
    refine Chain.cons (StepOK.load .none ty48 (.tmp rfl (fun _ => trivial))) rfl ?_
    refine Chain.cons (StepOK.load .none ty48 (.tmp rfl (fun _ => trivial))) rfl ?_
    refine Chain.cons (StepOK.eqS .none eq48 (.tmp rfl (fun _ => trivial)) (.tmp rfl (fun _ => trivial))) rfl ?_
    refine Chain.cons (StepOK.move .none (.tmp rfl (fun _ => trivial))) rfl ?_
    refine Chain.cons (StepOK.move (.at rfl rfl) (.tmp rfl (fun _ => trivial))) rfl ?_
    refine Chain.cons (StepOK.move (.at rfl rfl) (.tmp rfl (fun _ => trivial))) rfl ?_
    refine Chain.cons (StepOK.eqI (.at rfl rfl) (.tmp rfl id) (.tmp rfl id)) rfl ?_
    refine Chain.cons (StepOK.pickAnd .none (.tmp rfl (fun _ => trivial)) (.tmp rfl id)) rfl ?_
    refine Chain.cons (StepOK.assign .none (.tmp rfl (fun _ => trivial))) rfl ?_
    refine Chain.nil ?_
    refine Ends.then ?_
    refine Cod.weaken (.cons (t := 8) rfl Sub.nil) SubB.nil ?_
    refine Cod.ret ?_
    refine Ends.thenRet ?_
    refine Ends.ret1 (.inl rfl) Try.results35 (ResOK.tmp rfl trivial ?_)
    refine Imp.eq ?_; simp_all [isE]
  · try simp only [decide_eq_true_eq, decide_eq_false_iff_not, Bool.and_eq_true, Bool.or_eq_true, Bool.not_eq_true', Bool.not_eq_false', Bool.and_eq_false_iff, Bool.or_eq_false_iff, Int.not_lt, Int.not_le, Bool.true_eq_false, Bool.false_eq_true, true_and, and_true] at hb1
    refine Cod.skip ?_
    refine Ends.then ?_
    refine Cod.weaken (.cons (t := 1) rfl (.cons (t := 3) rfl (.cons (t := 4) rfl Sub.nil))) SubB.nil ?_
    refine Cod.seq ?_
    refine Cod.region [] mixed (by kernel_rfl) ?_
    refine Chain.cons (StepOK.move .none (.tmp rfl (fun _ => trivial))) rfl ?_
    refine Chain.cons (StepOK.eqI .none (.tmp rfl (fun _ => trivial)) (.int (by decide))) rfl ?_
    refine Chain.cons (StepOK.move .none (.tmp rfl (fun _ => trivial))) rfl ?_
    refine Chain.cons (StepOK.load (.at rfl rfl) ty48 (.tmp rfl (fun _ => trivial))) rfl ?_
    refine Chain.cons (StepOK.move (.at rfl rfl) (.tmp rfl (fun _ => trivial))) rfl ?_
    refine Chain.cons (StepOK.callV () (.at rfl rfl) (.tmp rfl id) (fun _ => hpre hb1) .nil) rfl ?_
    refine Chain.cons (StepOK.eqS (.at rfl rfl) eq48 (.tmp rfl id) (.tmp rfl id)) rfl ?_
    refine Chain.cons (StepOK.pickAnd .none (.tmp rfl (fun _ => trivial)) (.tmp rfl id)) rfl ?_
    refine Chain.cons (StepOK.assign .none (.tmp rfl (fun _ => trivial))) rfl ?_
    refine Chain.nil ?_
    refine Ends.then ?_
    refine Cod.weaken (.cons (t := 8) rfl Sub.nil) SubB.nil ?_
    refine Cod.ret ?_
    refine Ends.ret1 (.inl rfl) Try.results35 (ResOK.tmp rfl trivial ?_)
    refine Imp.eq ?_; simp_all [isE]

/-- drawlaw1.BoxesMatch$1 -/
theorem Boxes1_spec (x : Bx) : FSpec Try.prog 36 [ref x] (rep x) := by
  refine FSpec.intro (n := 3) fnok36 Try.func36 rfl Try.ntmps36 rfl (fun w0 Mf => ?_)
  refine Cod.seq ?_
  refine Cod.region [([], some 1)] mixed (by kernel_rfl) ?_
  refine Chain.alloc zo48 rfl rfl ?_
  refine Chain.nil ?_
  refine Ends.then ?_
  refine Cod.weaken (.cons (t := 0) rfl Sub.nil) (.cons (t := 1) rfl SubB.nil) ?_
  refine Cod.seq ?_
  refine Cod.region [([], none), ([1], some 1)] mixed (by kernel_rfl) ?_
  refine Chain.consA (StepOK.load .none ty48 (.tmp rfl (fun _ => trivial))) rfl ?_
  refine Chain.store ty48 rfl (.tmp rfl (fun _ => trivial)) ?_
  refine Chain.nil ?_
  refine Ends.then ?_
  refine Cod.weaken Sub.nil (.cons (t := 1) rfl SubB.nil) ?_
  refine Cod.ret ?_
  refine Ends.ret1 (.inl rfl) Try.results36 (ResOK.cellB ty48 rfl ?_)
  exact Imp.refl

/-- drawlaw1.BoxesMatch$2 -/
theorem Boxes2_spec (x : Bx) : FSpec Try.prog 42 [ref x] (rep x) := by
  refine FSpec.intro (n := 3) fnok42 Try.func42 rfl Try.ntmps42 rfl (fun w0 Mf => ?_)
  refine Cod.seq ?_
  refine Cod.region [([], some 1)] mixed (by kernel_rfl) ?_
  refine Chain.alloc zo48 rfl rfl ?_
  refine Chain.nil ?_
  refine Ends.then ?_
  refine Cod.weaken (.cons (t := 0) rfl Sub.nil) (.cons (t := 1) rfl SubB.nil) ?_
  refine Cod.seq ?_
  refine Cod.region [([], none), ([1], some 1)] mixed (by kernel_rfl) ?_
  refine Chain.consA (StepOK.load .none ty48 (.tmp rfl (fun _ => trivial))) rfl ?_
  refine Chain.store ty48 rfl (.tmp rfl (fun _ => trivial)) ?_
  refine Chain.nil ?_
  refine Ends.then ?_
  refine Cod.weaken Sub.nil (.cons (t := 1) rfl SubB.nil) ?_
  refine Cod.ret ?_
  refine Ends.ret1 (.inl rfl) Try.results42 (ResOK.cellB ty48 rfl ?_)
  exact Imp.refl

/-- drawlaw1.BoxesMatch -/
theorem BoxesMatch_spec (a b : Bx) (l : List Bx) (p : Pt) (n : Int) : FSpec Try.prog 5 [rep a, rep b, rep l, rep p, rep n] (rep true) := by
  refine FSpec.intro (n := 217) fnok5 Try.func5 rfl Try.ntmps5 rfl (fun w0 Mf => ?_)
  refine Cod.fact (t := 2) rfl trivial rep_len (fun hlen2 => ?_)
  refine Cod.seq ?_
  refine Cod.region [] mixed (by kernel_rfl) ?_
  refine Chain.cons (StepOK.box .none (.tmp rfl (fun _ => trivial))) rfl ?_
  refine Chain.cons (StepOK.box .none (.tmp rfl (fun _ => trivial))) rfl ?_
  refine Chain.cons (StepOK.box .none (.tmp rfl (fun _ => trivial))) rfl ?_
  refine Chain.cons (StepOK.assign .none .bool) rfl ?_
  refine Chain.nil ?_
  refine Ends.then ?_
  refine Cod.weaken (.cons (t := 2) rfl (.cons (t := 4) rfl (.cons (t := 5) rfl (.cons (t := 6) rfl (.cons (t := 8) rfl Sub.nil))))) SubB.nil ?_
  refine Cod.seq ?_
  refine Cod.region [] mixed (by kernel_rfl) ?_
  refine Chain.cons (StepOK.load .none ty48 (.tmp rfl (fun _ => trivial))) rfl ?_
  refine Chain.cons (StepOK.call .none (BoxError_spec _) (.cons (.tmp rfl (fun _ => trivial)) .nil)) rfl ?_
  refine Chain.cons (StepOK.load .none ty48 (.tmp rfl (fun _ => trivial))) rfl ?_
  refine Chain.cons (StepOK.call .none (BoxError_spec _) (.cons (.tmp rfl (fun _ => trivial)) .nil)) rfl ?_
  refine Chain.cons (StepOK.load .none ty48 (.tmp rfl (fun _ => trivial))) rfl ?_
  refine Chain.cons (StepOK.call .none (BoxError_spec _) (.cons (.tmp rfl (fun _ => trivial)) .nil)) rfl ?_
  refine Chain.cons (StepOK.buildSlice (xs := [_, _]) .none sl94 ty24 hz24 (.cons (.tmp rfl (fun _ => trivial)) (.cons (.tmp rfl (fun _ => trivial)) .nil)) rfl (by decide)) rfl ?_
  refine Chain.cons (StepOK.call .none (First_spec _) (.cons (.tmp rfl (fun _ => trivial)) .nil)) rfl ?_
  refine Chain.cons (StepOK.assign .none (.tmp rfl (fun _ => trivial))) rfl ?_
  refine Chain.cons (StepOK.assign .none (.tmp rfl (fun _ => trivial))) rfl ?_
  refine Chain.nil ?_
  refine Ends.then ?_
  refine Cod.weaken (.cons (t := 2) rfl (.cons (t := 4) rfl (.cons (t := 5) rfl (.cons (t := 6) rfl (.cons (t := 8) rfl (.cons (t := 11) rfl (.cons (t := 12) rfl Sub.nil))))))) SubB.nil ?_
  refine Cod.seq ?_
  refine Cod.region [([], none), ([], none), ([], none), ([], none), ([], none), ([], some 13), ([13], some 13), ([], none)] mixed (by kernel_rfl) ?_
  refine Chain.consA (StepOK.move .none (.tmp rfl (fun _ => trivial))) rfl ?_
  refine Chain.consA (StepOK.call .none (Hull_spec _) (.cons (.tmp rfl (fun _ => trivial)) .nil)) rfl ?_
  refine Chain.consA (StepOK.move .none (.tmp rfl (fun _ => trivial))) rfl ?_
  refine Chain.consA (StepOK.extract .none (.tmp rfl (fun _ => trivial)) rfl) rfl ?_
  refine Chain.consA (StepOK.extract .none (.tmp rfl (fun _ => trivial)) rfl) rfl ?_
  refine Chain.alloc zo48 rfl rfl ?_
  refine Chain.store ty48 rfl (.tmp rfl (fun _ => trivial)) ?_
  refine Chain.consA (StepOK.assign .none (.tmp rfl (fun _ => trivial))) rfl ?_
  refine Chain.nil ?_
  refine Ends.then ?_
  refine Cod.freeze (t := 13) rfl SubB.nil rfl ?_
  refine Cod.weaken (.cons (t := 2) rfl (.cons (t := 4) rfl (.cons (t := 5) rfl (.cons (t := 6) rfl (.cons (t := 8) rfl (.cons (t := 11) rfl (.cons (t := 12) rfl (.cons (t := 13) rfl (.cons (t := 14) rfl Sub.nil))))))))) SubB.nil ?_
  refine Cod.seq ?_
  refine Cod.region [] mixed (by kernel_rfl) ?_
  refine Chain.cons (StepOK.move .none (.tmp rfl (fun _ => trivial))) rfl ?_
  refine Chain.cons (StepOK.call .none (BoxesError_spec _) (.cons (.tmp rfl (fun _ => trivial)) .nil)) rfl ?_
  refine Chain.cons (StepOK.assign .none (.tmp rfl (fun _ => trivial))) rfl ?_
  refine Chain.nil ?_
  refine Ends.then ?_
  refine Cod.weaken (.cons (t := 2) rfl (.cons (t := 4) rfl (.cons (t := 5) rfl (.cons (t := 6) rfl (.cons (t := 8) rfl (.cons (t := 11) rfl (.cons (t := 12) rfl (.cons (t := 13) rfl (.cons (t := 14) rfl (.cons (t := 15) rfl Sub.nil)))))))))) SubB.nil ?_
  refine Cod.seq ?_
  refine Cod.region [([], some 16)] mixed (by kernel_rfl) ?_
  refine Chain.alloc zo48 rfl rfl ?_
  refine Chain.nil ?_
  refine Ends.then ?_
  refine Cod.weaken (.cons (t := 2) rfl (.cons (t := 4) rfl (.cons (t := 5) rfl (.cons (t := 6) rfl (.cons (t := 8) rfl (.cons (t := 11) rfl (.cons (t := 12) rfl (.cons (t := 13) rfl (.cons (t := 14) rfl (.cons (t := 15) rfl Sub.nil)))))))))) (.cons (t := 16) rfl SubB.nil) ?_
  refine Cod.seq ?_
  refine Cod.seq ?_
  refine Cod.region [] mixed (by kernel_rfl) ?_
  refine Chain.cons (StepOK.move .none (.tmp rfl (fun _ => trivial))) rfl ?_
  refine Chain.cons (StepOK.eqI .none (.tmp rfl (fun _ => trivial)) (.int (by decide))) rfl ?_
  refine Chain.nil ?_
  refine Ends.then ?_
  refine Cod.weaken (.cons (t := 2) rfl (.cons (t := 4) rfl (.cons (t := 5) rfl (.cons (t := 6) rfl (.cons (t := 8) rfl (.cons (t := 11) rfl (.cons (t := 12) rfl (.cons (t := 13) rfl (.cons (t := 14) rfl (.cons (t := 15) rfl (.cons (t := 43) rfl Sub.nil))))))))))) (.cons (t := 16) rfl SubB.nil) ?_
  refine Cod.cond (t := 43) rfl trivial (fun hb1 => ?_) (fun hb1 => ?_)
  · try simp only [decide_eq_true_eq, decide_eq_false_iff_not, Bool.and_eq_true, Bool.or_eq_true, Bool.not_eq_true', Bool.not_eq_false', Bool.and_eq_false_iff, Bool.or_eq_false_iff, Int.not_lt, Int.not_le, Bool.true_eq_false, Bool.false_eq_true, true_and, and_true] at hb1
    have hle := listE_zero hb1
    refine Cod.region [([], none), ([], none), ([], none), ([], none), ([], none), ([16], some 16), ([], none)] mixed (by kernel_rfl) ?_
    refine Chain.consA (StepOK.move .none (.tmp rfl (fun _ => trivial))) rfl ?_
    refine Chain.consA (StepOK.callIf .none fnok32 (HullOf_spec _) (.cons (.tmp rfl (fun _ => trivial)) .nil) (fun _ => hle)) rfl ?_
    refine Chain.consA (StepOK.move .none (.tmp rfl (fun _ => trivial))) rfl ?_
    refine Chain.consA (StepOK.extract .none (.tmp rfl (fun _ => trivial)) rfl) rfl ?_
    refine Chain.consA (StepOK.extract .none (.tmp rfl (fun _ => trivial)) rfl) rfl ?_
    refine Chain.store ty48 rfl (.tmp rfl (fun _ => trivial)) ?_
    refine Chain.consA (StepOK.assign .none (.tmp rfl (fun _ => trivial))) rfl ?_
    refine Chain.nil ?_
    refine Ends.then ?_
    refine Cod.freeze (t := 16) rfl SubB.nil rfl ?_
    refine Cod.weaken (.cons (t := 4) rfl (.cons (t := 5) rfl (.cons (t := 6) rfl (.cons (t := 8) rfl (.cons (t := 11) rfl (.cons (t := 12) rfl (.cons (t := 13) rfl (.cons (t := 14) rfl (.cons (t := 15) rfl (.cons (t := 16) rfl Sub.nil)))))))))) SubB.nil ?_
    refine Cod.seq ?_
    refine Cod.seq ?_
    refine Cod.region [] mixed (by kernel_rfl) ?_
    refine Chain.cons (StepOK.call .none (geoms_spec) .nil) rfl ?_
    refine Chain.cons (StepOK.not .none (.tmp rfl (fun _ => trivial))) rfl ?_
    refine Chain.cons (StepOK.move .none (.tmp rfl (fun _ => trivial))) rfl ?_
    refine Chain.cons (StepOK.load (.at rfl rfl) ty48 (.tmp rfl (fun _ => trivial))) rfl ?_
    refine Chain.cons (StepOK.call (.at rfl rfl) (CheckBox_spec _) (.cons (.tmp rfl id) .nil)) rfl ?_
    refine Chain.cons (StepOK.move (.at rfl rfl) (.tmp rfl (fun _ => trivial))) rfl ?_
    refine Chain.cons (StepOK.neI (.at rfl rfl) (.tmp rfl id) (.tmp rfl id)) rfl ?_
    refine Chain.cons (StepOK.pickOr .none (.tmp rfl (fun _ => trivial)) (.tmp rfl id)) rfl ?_
    refine Chain.cons (StepOK.move .none (.tmp rfl (fun _ => trivial))) rfl ?_
    refine Chain.cons (StepOK.load (.at rfl rfl) ty23 (.tmp rfl (fun _ => trivial))) rfl ?_
    refine Chain.cons (StepOK.call (.at rfl rfl) (CheckPoint_spec _) (.cons (.tmp rfl id) .nil)) rfl ?_
    refine Chain.cons (StepOK.load (.at rfl rfl) ty23 (.tmp rfl (fun _ => trivial))) rfl ?_
    refine Chain.cons (StepOK.call (.at rfl rfl) (PointError_spec _) (.cons (.tmp rfl id) .nil)) rfl ?_
    refine Chain.cons (StepOK.neI (.at rfl rfl) (.tmp rfl id) (.tmp rfl id)) rfl ?_
    refine Chain.cons (StepOK.pickOr .none (.tmp rfl (fun _ => trivial)) (.tmp rfl id)) rfl ?_
    refine Chain.cons (StepOK.move .none (.tmp rfl (fun _ => trivial))) rfl ?_
    refine Chain.cons (StepOK.load (.at rfl rfl) ty48 (.tmp rfl (fun _ => trivial))) rfl ?_
    refine Chain.cons (StepOK.move (.at rfl rfl) (.tmp rfl (fun _ => trivial))) rfl ?_
    refine Chain.cons (StepOK.move (.at rfl rfl) (.tmp rfl (fun _ => trivial))) rfl ?_
    refine Chain.cons (StepOK.makeFunc (ι := Unit) (pre := fun _ => True) (Ss := fun _ => []) (S := fun _ => rep (hullV l)) (Cs := [ref (hullV l)]) (.at rfl rfl) fnok36 (fun _ _ => Boxes1_spec (hullV l)) (.cons (.tmp rfl (fun _ => trivial)) .nil)) rfl ?_
    refine Chain.cons (StepOK.callIf (.at rfl rfl) fnok35 (is_Bx _ _ _ _ _) (.cons (.tmp rfl id) (.cons (.tmp rfl id) (.cons (.tmp rfl id) (.cons (.tmp rfl id) .nil)))) (fun _ _ => trivial)) rfl ?_
    refine Chain.cons (StepOK.not (.at rfl rfl) (.tmp rfl id)) rfl ?_
    refine Chain.cons (StepOK.pickOr .none (.tmp rfl (fun _ => trivial)) (.tmp rfl id)) rfl ?_
    refine Chain.nil ?_
    refine Ends.then ?_
    refine Cod.weaken (.cons (t := 4) rfl (.cons (t := 5) rfl (.cons (t := 6) rfl (.cons (t := 11) rfl (.cons (t := 12) rfl (.cons (t := 71) rfl Sub.nil)))))) SubB.nil ?_
    refine Cod.cond (t := 71) rfl trivial (fun hb2 => ?_) (fun hb2 => ?_)
    · skip
      first | exact absurd hb2 (by rw [boxes_a1 hb1]; simp) | exact absurd hb2 (by rw [boxes_a2 hb1]; simp)
    · skip
      refine Cod.skip ?_
      refine Ends.then ?_
      refine Cod.weaken (.cons (t := 4) rfl (.cons (t := 5) rfl (.cons (t := 6) rfl (.cons (t := 11) rfl (.cons (t := 12) rfl Sub.nil))))) SubB.nil ?_
      refine Cod.seq ?_
      refine Cod.region [([], none), ([], none), ([], none), ([], none), ([], none), ([], none), ([], none), ([], some 17), ([17], some 17), ([], none), ([], none)] mixed (by kernel_rfl) ?_
      refine Chain.consA (StepOK.load .none ty48 (.tmp rfl (fun _ => trivial))) rfl ?_
      refine Chain.consA (StepOK.load .none ty48 (.tmp rfl (fun _ => trivial))) rfl ?_
      refine Chain.consA (StepOK.call .none (Common_spec _ _) (.cons (.tmp rfl (fun _ => trivial)) (.cons (.tmp rfl (fun _ => trivial)) .nil))) rfl ?_
      refine Chain.consA (StepOK.move .none (.tmp rfl (fun _ => trivial))) rfl ?_
      refine Chain.consA (StepOK.extract .none (.tmp rfl (fun _ => trivial)) rfl) rfl ?_
      refine Chain.consA (StepOK.extract .none (.tmp rfl (fun _ => trivial)) rfl) rfl ?_
      refine Chain.consA (StepOK.extract .none (.tmp rfl (fun _ => trivial)) rfl) rfl ?_
      refine Chain.alloc zo48 rfl rfl ?_
      refine Chain.store ty48 rfl (.tmp rfl (fun _ => trivial)) ?_
      refine Chain.consA (StepOK.assign .none (.tmp rfl (fun _ => trivial))) rfl ?_
      refine Chain.consA (StepOK.assign .none (.tmp rfl (fun _ => trivial))) rfl ?_
      refine Chain.nil ?_
      refine Ends.then ?_
      refine Cod.freeze (t := 17) rfl SubB.nil rfl ?_
      refine Cod.weaken (.cons (t := 4) rfl (.cons (t := 5) rfl (.cons (t := 6) rfl (.cons (t := 11) rfl (.cons (t := 12) rfl (.cons (t := 14) rfl (.cons (t := 17) rfl (.cons (t := 18) rfl Sub.nil)))))))) SubB.nil ?_
      refine Cod.seq ?_
      refine Cod.region [([], none), ([], none), ([], none), ([], none), ([], none), ([], none), ([], some 19), ([19], some 19), ([], none)] mixed (by kernel_rfl) ?_
      refine Chain.consA (StepOK.load .none ty48 (.tmp rfl (fun _ => trivial))) rfl ?_
      refine Chain.consA (StepOK.load .none ty48 (.tmp rfl (fun _ => trivial))) rfl ?_
      refine Chain.consA (StepOK.call .none (CommonOf_spec _ _) (.cons (.tmp rfl (fun _ => trivial)) (.cons (.tmp rfl (fun _ => trivial)) .nil))) rfl ?_
      refine Chain.consA (StepOK.move .none (.tmp rfl (fun _ => trivial))) rfl ?_
      refine Chain.consA (StepOK.extract .none (.tmp rfl (fun _ => trivial)) rfl) rfl ?_
      refine Chain.consA (StepOK.extract .none (.tmp rfl (fun _ => trivial)) rfl) rfl ?_
      refine Chain.alloc zo48 rfl rfl ?_
      refine Chain.store ty48 rfl (.tmp rfl (fun _ => trivial)) ?_
      refine Chain.consA (StepOK.assign .none (.tmp rfl (fun _ => trivial))) rfl ?_
      refine Chain.nil ?_
      refine Ends.then ?_
      refine Cod.freeze (t := 19) rfl SubB.nil rfl ?_
      refine Cod.weaken (.cons (t := 4) rfl (.cons (t := 5) rfl (.cons (t := 6) rfl (.cons (t := 11) rfl (.cons (t := 12) rfl (.cons (t := 14) rfl (.cons (t := 17) rfl (.cons (t := 18) rfl (.cons (t := 19) rfl (.cons (t := 20) rfl Sub.nil)))))))))) SubB.nil ?_
      refine Cod.seq ?_
      refine Cod.seq ?_
      refine Cod.region [] mixed (by kernel_rfl) ?_
      refine Chain.cons (StepOK.move .none (.tmp rfl (fun _ => trivial))) rfl ?_
      refine Chain.cons (StepOK.neI .none (.tmp rfl (fun _ => trivial)) (.int (by decide))) rfl ?_
      refine Chain.cons (StepOK.move .none (.tmp rfl (fun _ => trivial))) rfl ?_
      refine Chain.cons (StepOK.load (.at rfl rfl) ty48 (.tmp rfl (fun _ => trivial))) rfl ?_
      refine Chain.cons (StepOK.build (y := (⟨0, 0, 0, 0⟩ : Bx)) (.at rfl rfl) bu48 .nil rfl (fun M w vs h => by match vs, h with | [], _ => exact ⟨_, rfl, rep_bx_cells (by decide) (by decide) (by decide) (by decide)⟩)) rfl ?_
      refine Chain.cons (StepOK.neS (.at rfl rfl) eq48 (.tmp rfl id) (.tmp rfl id)) rfl ?_
      refine Chain.cons (StepOK.move (.at rfl rfl) (.tmp rfl id)) rfl ?_
      refine Chain.cons (StepOK.move (.at rfl rfl) (.tmp rfl (fun _ => trivial))) rfl ?_
      refine Chain.cons (StepOK.pickOr (.at rfl rfl) (.tmp rfl id) (.tmp rfl id)) rfl ?_
      refine Chain.cons (StepOK.move (.at rfl rfl) (.tmp rfl id)) rfl ?_
      refine Chain.cons (StepOK.move (.at rfl rfl) (.tmp rfl (fun _ => trivial))) rfl ?_
      refine Chain.cons (StepOK.move (.at rfl rfl) (.tmp rfl (fun _ => trivial))) rfl ?_
      refine Chain.cons (StepOK.neI (.at rfl rfl) (.tmp rfl id) (.tmp rfl id)) rfl ?_
      refine Chain.cons (StepOK.pickOr (.at rfl rfl) (.tmp rfl id) (.tmp rfl id)) rfl ?_
      refine Chain.cons (StepOK.pickAnd .none (.tmp rfl (fun _ => trivial)) (.tmp rfl id)) rfl ?_
      refine Chain.cons (StepOK.move .none (.tmp rfl (fun _ => trivial))) rfl ?_
      refine Chain.cons (StepOK.move (.at rfl rfl) (.tmp rfl (fun _ => trivial))) rfl ?_
      refine Chain.cons (StepOK.eqI (.at rfl rfl) (.tmp rfl id) (.int (by decide))) rfl ?_
      refine Chain.cons (StepOK.move (.at rfl rfl) (.tmp rfl id)) rfl ?_
      refine Chain.cons (StepOK.load (.at rfl rfl) ty48 (.tmp rfl (fun _ => trivial))) rfl ?_
      refine Chain.cons (StepOK.load (.at rfl rfl) ty48 (.tmp rfl (fun _ => trivial))) rfl ?_
      refine Chain.cons (StepOK.neS (.at rfl rfl) eq48 (.tmp rfl id) (.tmp rfl id)) rfl ?_
      refine Chain.cons (StepOK.move (.at rfl rfl) (.tmp rfl id)) rfl ?_
      refine Chain.cons (StepOK.move (.at rfl rfl) (.tmp rfl (fun _ => trivial))) rfl ?_
      refine Chain.cons (StepOK.move (.at rfl rfl) (.tmp rfl (fun _ => trivial))) rfl ?_
      refine Chain.cons (StepOK.neS (.at rfl rfl) (eqAt_bool Try.underlying4) (.tmp rfl id) (.tmp rfl id)) rfl ?_
      refine Chain.cons (StepOK.pickOr (.at rfl rfl) (.tmp rfl id) (.tmp rfl id)) rfl ?_
      refine Chain.cons (StepOK.move (.at rfl rfl) (.tmp rfl id)) rfl ?_
      refine Chain.cons (StepOK.move (.at rfl rfl) (.tmp rfl (fun _ => trivial))) rfl ?_
      refine Chain.cons (StepOK.neI (.at rfl rfl) (.tmp rfl id) (.int (by decide))) rfl ?_
      refine Chain.cons (StepOK.pickOr (.at rfl rfl) (.tmp rfl id) (.tmp rfl id)) rfl ?_
      refine Chain.cons (StepOK.pickAnd (.at rfl rfl) (.tmp rfl id) (.tmp rfl id)) rfl ?_
      refine Chain.cons (StepOK.pickOr .none (.tmp rfl (fun _ => trivial)) (.tmp rfl id)) rfl ?_
      refine Chain.nil ?_
      refine Ends.then ?_
      refine Cod.weaken (.cons (t := 4) rfl (.cons (t := 5) rfl (.cons (t := 6) rfl (.cons (t := 11) rfl (.cons (t := 12) rfl (.cons (t := 117) rfl Sub.nil)))))) SubB.nil ?_
      refine Cod.cond (t := 117) rfl trivial (fun hb3 => ?_) (fun hb3 => ?_)
      · skip
        exact absurd hb3 (by rw [← bxsErr2]; by_cases h0 : bxsErr [a, b] = 0 <;> simp [h0])
      · skip
        refine Cod.skip ?_
        refine Ends.then ?_
        refine Cod.weaken (.cons (t := 4) rfl (.cons (t := 5) rfl (.cons (t := 6) rfl (.cons (t := 11) rfl (.cons (t := 12) rfl Sub.nil))))) SubB.nil ?_
        refine Cod.seq ?_
        refine Cod.region [] mixed (by kernel_rfl) ?_
        refine Chain.cons (StepOK.load .none ty48 (.tmp rfl (fun _ => trivial))) rfl ?_
        refine Chain.cons (StepOK.load .none ty48 (.tmp rfl (fun _ => trivial))) rfl ?_
        refine Chain.cons (StepOK.call .none (Gap_spec _ _) (.cons (.tmp rfl (fun _ => trivial)) (.cons (.tmp rfl (fun _ => trivial)) .nil))) rfl ?_
        refine Chain.cons (StepOK.move .none (.tmp rfl (fun _ => trivial))) rfl ?_
        refine Chain.cons (StepOK.extract .none (.tmp rfl (fun _ => trivial)) rfl) rfl ?_
        refine Chain.cons (StepOK.extract .none (.tmp rfl (fun _ => trivial)) rfl) rfl ?_
        refine Chain.cons (StepOK.extract .none (.tmp rfl (fun _ => trivial)) rfl) rfl ?_
        refine Chain.cons (StepOK.assign .none (.tmp rfl (fun _ => trivial))) rfl ?_
        refine Chain.cons (StepOK.assign .none (.tmp rfl (fun _ => trivial))) rfl ?_
        refine Chain.cons (StepOK.assign .none (.tmp rfl (fun _ => trivial))) rfl ?_
        refine Chain.nil ?_
        refine Ends.then ?_
        refine Cod.weaken (.cons (t := 4) rfl (.cons (t := 5) rfl (.cons (t := 6) rfl (.cons (t := 11) rfl (.cons (t := 12) rfl (.cons (t := 14) rfl (.cons (t := 21) rfl (.cons (t := 22) rfl Sub.nil)))))))) SubB.nil ?_
        refine Cod.seq ?_
        refine Cod.region [] mixed (by kernel_rfl) ?_
        refine Chain.cons (StepOK.load .none ty48 (.tmp rfl (fun _ => trivial))) rfl ?_
        refine Chain.cons (StepOK.load .none ty48 (.tmp rfl (fun _ => trivial))) rfl ?_
        refine Chain.cons (StepOK.call .none (GapOf_spec _ _) (.cons (.tmp rfl (fun _ => trivial)) (.cons (.tmp rfl (fun _ => trivial)) .nil))) rfl ?_
        refine Chain.cons (StepOK.move .none (.tmp rfl (fun _ => trivial))) rfl ?_
        refine Chain.cons (StepOK.extract .none (.tmp rfl (fun _ => trivial)) rfl) rfl ?_
        refine Chain.cons (StepOK.extract .none (.tmp rfl (fun _ => trivial)) rfl) rfl ?_
        refine Chain.cons (StepOK.assign .none (.tmp rfl (fun _ => trivial))) rfl ?_
        refine Chain.cons (StepOK.assign .none (.tmp rfl (fun _ => trivial))) rfl ?_
        refine Chain.nil ?_
        refine Ends.then ?_
        refine Cod.weaken (.cons (t := 4) rfl (.cons (t := 5) rfl (.cons (t := 11) rfl (.cons (t := 12) rfl (.cons (t := 14) rfl (.cons (t := 21) rfl (.cons (t := 22) rfl (.cons (t := 23) rfl (.cons (t := 24) rfl Sub.nil))))))))) SubB.nil ?_
        refine Cod.seq ?_
        refine Cod.seq ?_
        refine Cod.region [] mixed (by kernel_rfl) ?_
        refine Chain.cons (StepOK.move .none (.tmp rfl (fun _ => trivial))) rfl ?_
        refine Chain.cons (StepOK.neI .none (.tmp rfl (fun _ => trivial)) (.int (by decide))) rfl ?_
        refine Chain.cons (StepOK.move .none (.tmp rfl (fun _ => trivial))) rfl ?_
        refine Chain.cons (StepOK.move (.at rfl rfl) (.tmp rfl (fun _ => trivial))) rfl ?_
        refine Chain.cons (StepOK.neI (.at rfl rfl) (.tmp rfl id) (.int (by decide))) rfl ?_
        refine Chain.cons (StepOK.move (.at rfl rfl) (.tmp rfl id)) rfl ?_
        refine Chain.cons (StepOK.move (.at rfl rfl) (.tmp rfl (fun _ => trivial))) rfl ?_
        refine Chain.cons (StepOK.neI (.at rfl rfl) (.tmp rfl id) (.int (by decide))) rfl ?_
        refine Chain.cons (StepOK.pickOr (.at rfl rfl) (.tmp rfl id) (.tmp rfl id)) rfl ?_
        refine Chain.cons (StepOK.move (.at rfl rfl) (.tmp rfl id)) rfl ?_
        refine Chain.cons (StepOK.move (.at rfl rfl) (.tmp rfl (fun _ => trivial))) rfl ?_
        refine Chain.cons (StepOK.move (.at rfl rfl) (.tmp rfl (fun _ => trivial))) rfl ?_
        refine Chain.cons (StepOK.neI (.at rfl rfl) (.tmp rfl id) (.tmp rfl id)) rfl ?_
        refine Chain.cons (StepOK.pickOr (.at rfl rfl) (.tmp rfl id) (.tmp rfl id)) rfl ?_
        refine Chain.cons (StepOK.pickAnd .none (.tmp rfl (fun _ => trivial)) (.tmp rfl id)) rfl ?_
        refine Chain.cons (StepOK.move .none (.tmp rfl (fun _ => trivial))) rfl ?_
        refine Chain.cons (StepOK.move (.at rfl rfl) (.tmp rfl (fun _ => trivial))) rfl ?_
        refine Chain.cons (StepOK.eqI (.at rfl rfl) (.tmp rfl id) (.int (by decide))) rfl ?_
        refine Chain.cons (StepOK.move (.at rfl rfl) (.tmp rfl id)) rfl ?_
        refine Chain.cons (StepOK.move (.at rfl rfl) (.tmp rfl (fun _ => trivial))) rfl ?_
        refine Chain.cons (StepOK.move (.at rfl rfl) (.tmp rfl (fun _ => trivial))) rfl ?_
        refine Chain.cons (StepOK.neI (.at rfl rfl) (.tmp rfl id) (.tmp rfl id)) rfl ?_
        refine Chain.cons (StepOK.move (.at rfl rfl) (.tmp rfl id)) rfl ?_
        refine Chain.cons (StepOK.move (.at rfl rfl) (.tmp rfl (fun _ => trivial))) rfl ?_
        refine Chain.cons (StepOK.move (.at rfl rfl) (.tmp rfl (fun _ => trivial))) rfl ?_
        refine Chain.cons (StepOK.neI (.at rfl rfl) (.tmp rfl id) (.tmp rfl id)) rfl ?_
        refine Chain.cons (StepOK.pickOr (.at rfl rfl) (.tmp rfl id) (.tmp rfl id)) rfl ?_
        refine Chain.cons (StepOK.move (.at rfl rfl) (.tmp rfl id)) rfl ?_
        refine Chain.cons (StepOK.move (.at rfl rfl) (.tmp rfl (fun _ => trivial))) rfl ?_
        refine Chain.cons (StepOK.neI (.at rfl rfl) (.tmp rfl id) (.int (by decide))) rfl ?_
        refine Chain.cons (StepOK.pickOr (.at rfl rfl) (.tmp rfl id) (.tmp rfl id)) rfl ?_
        refine Chain.cons (StepOK.pickAnd (.at rfl rfl) (.tmp rfl id) (.tmp rfl id)) rfl ?_
        refine Chain.cons (StepOK.pickOr .none (.tmp rfl (fun _ => trivial)) (.tmp rfl id)) rfl ?_
        refine Chain.nil ?_
        refine Ends.then ?_
        refine Cod.weaken (.cons (t := 4) rfl (.cons (t := 5) rfl (.cons (t := 11) rfl (.cons (t := 163) rfl Sub.nil)))) SubB.nil ?_
        refine Cod.cond (t := 163) rfl trivial (fun hb4 => ?_) (fun hb4 => ?_)
        · skip
          exact absurd hb4 (by rw [← bxsErr2]; by_cases h0 : bxsErr [a, b] = 0 <;> simp [h0])
        · skip
          refine Cod.skip ?_
          refine Ends.then ?_
          refine Cod.weaken (.cons (t := 4) rfl (.cons (t := 5) rfl (.cons (t := 11) rfl Sub.nil))) SubB.nil ?_
          refine Cod.seq ?_
          refine Cod.region [([], none), ([], none), ([], none), ([], none), ([], none), ([], none), ([], some 25), ([25], some 25), ([], none)] mixed (by kernel_rfl) ?_
          refine Chain.consA (StepOK.load .none ty48 (.tmp rfl (fun _ => trivial))) rfl ?_
          refine Chain.consA (StepOK.move .none (.tmp rfl (fun _ => trivial))) rfl ?_
          refine Chain.consA (StepOK.call .none (Grow_spec _ _) (.cons (.tmp rfl (fun _ => trivial)) (.cons (.tmp rfl (fun _ => trivial)) .nil))) rfl ?_
          refine Chain.consA (StepOK.move .none (.tmp rfl (fun _ => trivial))) rfl ?_
          refine Chain.consA (StepOK.extract .none (.tmp rfl (fun _ => trivial)) rfl) rfl ?_
          refine Chain.consA (StepOK.extract .none (.tmp rfl (fun _ => trivial)) rfl) rfl ?_
          refine Chain.alloc zo48 rfl rfl ?_
          refine Chain.store ty48 rfl (.tmp rfl (fun _ => trivial)) ?_
          refine Chain.consA (StepOK.assign .none (.tmp rfl (fun _ => trivial))) rfl ?_
          refine Chain.nil ?_
          refine Ends.then ?_
          refine Cod.freeze (t := 25) rfl SubB.nil rfl ?_
          refine Cod.weaken (.cons (t := 4) rfl (.cons (t := 5) rfl (.cons (t := 11) rfl (.cons (t := 14) rfl (.cons (t := 25) rfl Sub.nil))))) SubB.nil ?_
          refine Cod.seq ?_
          refine Cod.region [] mixed (by kernel_rfl) ?_
          refine Chain.cons (StepOK.move .none (.tmp rfl (fun _ => trivial))) rfl ?_
          refine Chain.cons (StepOK.move .none (.tmp rfl (fun _ => trivial))) rfl ?_
          refine Chain.cons (StepOK.call .none (In_spec _ _ _) (.cons (.tmp rfl (fun _ => trivial)) (.cons (.int (by decide)) (.cons (.int (by decide)) .nil)))) rfl ?_
          refine Chain.cons (StepOK.not .none (.tmp rfl (fun _ => trivial))) rfl ?_
          refine Chain.cons (StepOK.call .none (When_spec _ _) (.cons (.tmp rfl (fun _ => trivial)) (.cons (.int (by decide)) .nil))) rfl ?_
          refine Chain.cons (StepOK.buildSlice (xs := [_, _]) .none sl94 ty24 hz24 (.cons (.tmp rfl (fun _ => trivial)) (.cons (.tmp rfl (fun _ => trivial)) .nil)) rfl (by decide)) rfl ?_
          refine Chain.cons (StepOK.call .none (First_spec _) (.cons (.tmp rfl (fun _ => trivial)) .nil)) rfl ?_
          refine Chain.cons (StepOK.assign .none (.tmp rfl (fun _ => trivial))) rfl ?_
          refine Chain.nil ?_
          refine Ends.then ?_
          refine Cod.weaken (.cons (t := 4) rfl (.cons (t := 5) rfl (.cons (t := 14) rfl (.cons (t := 15) rfl (.cons (t := 25) rfl Sub.nil))))) SubB.nil ?_
          refine Cod.seq ?_
          refine Cod.region [([], none), ([], some 26), ([26], some 26)] mixed (by kernel_rfl) ?_
          refine Chain.consA (StepOK.build (y := (⟨0, 0, 0, 0⟩ : Bx)) .none bu48 .nil rfl (fun M w vs h => by match vs, h with | [], _ => exact ⟨_, rfl, rep_bx_cells (by decide) (by decide) (by decide) (by decide)⟩)) rfl ?_
          refine Chain.alloc zo48 rfl rfl ?_
          refine Chain.store ty48 rfl (.tmp rfl (fun _ => trivial)) ?_
          refine Chain.nil ?_
          refine Ends.then ?_
          refine Cod.weaken (.cons (t := 4) rfl (.cons (t := 5) rfl (.cons (t := 14) rfl (.cons (t := 15) rfl (.cons (t := 25) rfl Sub.nil))))) (.cons (t := 26) rfl SubB.nil) ?_
          refine Cod.seq ?_
          refine Cod.seq ?_
          refine Cod.region [] mixed (by kernel_rfl) ?_
          refine Chain.cons (StepOK.move .none (.tmp rfl (fun _ => trivial))) rfl ?_
          refine Chain.cons (StepOK.eqI .none (.tmp rfl (fun _ => trivial)) (.int (by decide))) rfl ?_
          refine Chain.nil ?_
          refine Ends.then ?_
          refine Cod.weaken (.cons (t := 4) rfl (.cons (t := 5) rfl (.cons (t := 14) rfl (.cons (t := 15) rfl (.cons (t := 25) rfl (.cons (t := 179) rfl Sub.nil)))))) (.cons (t := 26) rfl SubB.nil) ?_
          refine Cod.cond (t := 179) rfl trivial (fun hb5 => ?_) (fun hb5 => ?_)
          · try simp only [decide_eq_true_eq, decide_eq_false_iff_not, Bool.and_eq_true, Bool.or_eq_true, Bool.not_eq_true', Bool.not_eq_false', Bool.and_eq_false_iff, Bool.or_eq_false_iff, Int.not_lt, Int.not_le, Bool.true_eq_false, Bool.false_eq_true, true_and, and_true] at hb5
            obtain ⟨hg1, hg2, hg3⟩ := grow_ok hb5; unfold BxIn at hg2
            refine Cod.seq ?_
            refine Cod.region [([], none), ([], none), ([], none), ([], none), ([], none), ([], none), ([], none), ([], none), ([], none), ([], none), ([], none), ([], none), ([], none), ([], none), ([], none), ([], none), ([], none), ([], none), ([], none), ([26], some 26)] mixed (by kernel_rfl) ?_
            refine Chain.consA (StepOK.fieldAddr .none fd48_0 hfd48_0 (.tmp rfl (fun _ => trivial))) rfl ?_
            refine Chain.consA (StepOK.load .none ty3 (.tmp rfl (fun _ => trivial))) rfl ?_
            refine Chain.consA (StepOK.move .none (.tmp rfl (fun _ => trivial))) rfl ?_
            refine Chain.consA (StepOK.sub .none (.tmp rfl (fun _ => trivial)) (.tmp rfl (fun _ => trivial)) (by intro _ h1 h2; unfold InI at *; omega)) rfl ?_
            refine Chain.consA (StepOK.fieldAddr .none fd48_1 hfd48_1 (.tmp rfl (fun _ => trivial))) rfl ?_
            refine Chain.consA (StepOK.load .none ty3 (.tmp rfl (fun _ => trivial))) rfl ?_
            refine Chain.consA (StepOK.move .none (.tmp rfl (fun _ => trivial))) rfl ?_
            refine Chain.consA (StepOK.sub .none (.tmp rfl (fun _ => trivial)) (.tmp rfl (fun _ => trivial)) (by intro _ h1 h2; unfold InI at *; omega)) rfl ?_
            refine Chain.consA (StepOK.fieldAddr .none fd48_2 hfd48_2 (.tmp rfl (fun _ => trivial))) rfl ?_
            refine Chain.consA (StepOK.load .none ty3 (.tmp rfl (fun _ => trivial))) rfl ?_
            refine Chain.consA (StepOK.move .none (.tmp rfl (fun _ => trivial))) rfl ?_
            refine Chain.consA (StepOK.mul .none (.int (by decide)) (.tmp rfl (fun _ => trivial)) (by intro _ h1 h2; unfold InI at *; omega)) rfl ?_
            refine Chain.consA (StepOK.add .none (.tmp rfl (fun _ => trivial)) (.tmp rfl (fun _ => trivial)) (by intro _ h1 h2; unfold InI at *; omega)) rfl ?_
            refine Chain.consA (StepOK.fieldAddr .none fd48_3 hfd48_3 (.tmp rfl (fun _ => trivial))) rfl ?_
            refine Chain.consA (StepOK.load .none ty3 (.tmp rfl (fun _ => trivial))) rfl ?_
            refine Chain.consA (StepOK.move .none (.tmp rfl (fun _ => trivial))) rfl ?_
            refine Chain.consA (StepOK.mul .none (.int (by decide)) (.tmp rfl (fun _ => trivial)) (by intro _ h1 h2; unfold InI at *; omega)) rfl ?_
            refine Chain.consA (StepOK.add .none (.tmp rfl (fun _ => trivial)) (.tmp rfl (fun _ => trivial)) (by intro _ h1 h2; unfold InI at *; omega)) rfl ?_
            refine Chain.consA (StepOK.build (y := (⟨_, _, _, _⟩ : Bx)) .none bu48 (.cons (.tmp rfl (fun _ => trivial)) (.cons (.tmp rfl (fun _ => trivial)) (.cons (.tmp rfl (fun _ => trivial)) (.cons (.tmp rfl (fun _ => trivial)) .nil)))) rfl (fun M w vs h => by obtain ⟨rfl, hi⟩ := All2.ints [_, _, _, _] vs h; exact ⟨_, rfl, rep_bx_cells (p := ⟨_, _, _, _⟩) (hi _ (.head _)) (hi _ (.tail _ (.head _))) (hi _ (.tail _ (.tail _ (.head _)))) (hi _ (.tail _ (.tail _ (.tail _ (.head _)))))⟩)) rfl ?_
            refine Chain.store ty48 rfl (.tmp rfl (fun _ => trivial)) ?_
            refine Chain.nil ?_
            refine Ends.then ?_
            refine Cod.freeze (t := 26) rfl SubB.nil rfl ?_
            refine Cod.weaken (.cons (t := 14) rfl (.cons (t := 25) rfl (.cons (t := 26) rfl Sub.nil))) SubB.nil ?_
            refine Cod.region [] mixed (by kernel_rfl) ?_
            refine Chain.cons (StepOK.fieldAddr .none fd48_2 hfd48_2 (.tmp rfl (fun _ => trivial))) rfl ?_
            refine Chain.cons (StepOK.load .none ty3 (.tmp rfl (fun _ => trivial))) rfl ?_
            refine Chain.cons (StepOK.lt .none (.tmp rfl (fun _ => trivial)) (.int (by decide))) rfl ?_
            refine Chain.cons (StepOK.move .none (.tmp rfl (fun _ => trivial))) rfl ?_
            refine Chain.cons (StepOK.fieldAddr (.at rfl rfl) fd48_3 hfd48_3 (.tmp rfl (fun _ => trivial))) rfl ?_
            refine Chain.cons (StepOK.load (.at rfl rfl) ty3 (.tmp rfl id)) rfl ?_
            refine Chain.cons (StepOK.lt (.at rfl rfl) (.tmp rfl id) (.int (by decide))) rfl ?_
            refine Chain.cons (StepOK.pickOr .none (.tmp rfl (fun _ => trivial)) (.tmp rfl id)) rfl ?_
            refine Chain.cons (StepOK.call .none (When_spec _ _) (.cons (.tmp rfl (fun _ => trivial)) (.cons (.int (by decide)) .nil))) rfl ?_
            refine Chain.cons (StepOK.load .none ty48 (.tmp rfl (fun _ => trivial))) rfl ?_
            refine Chain.cons (StepOK.call .none (BoxError_spec _) (.cons (.tmp rfl (fun _ => trivial)) .nil)) rfl ?_
            refine Chain.cons (StepOK.buildSlice (xs := [_, _]) .none sl94 ty24 hz24 (.cons (.tmp rfl (fun _ => trivial)) (.cons (.tmp rfl (fun _ => trivial)) .nil)) rfl (by decide)) rfl ?_
            refine Chain.cons (StepOK.call .none (First_spec _) (.cons (.tmp rfl (fun _ => trivial)) .nil)) rfl ?_
            refine Chain.cons (StepOK.assign .none (.tmp rfl (fun _ => trivial))) rfl ?_
            refine Chain.nil ?_
            refine Ends.then ?_
            refine Cod.weaken (.cons (t := 14) rfl (.cons (t := 15) rfl (.cons (t := 25) rfl (.cons (t := 26) rfl Sub.nil)))) SubB.nil ?_
            refine Cod.seq ?_
            refine Cod.region [] mixed (by kernel_rfl) ?_
            refine Chain.cons (StepOK.load .none ty48 (.tmp rfl (fun _ => trivial))) rfl ?_
            refine Chain.cons (StepOK.move .none (.tmp rfl (fun _ => trivial))) rfl ?_
            refine Chain.cons (StepOK.move .none (.tmp rfl (fun _ => trivial))) rfl ?_
            refine Chain.cons (StepOK.makeFunc (ι := Unit) (pre := fun _ => True) (Ss := fun _ => []) (S := fun _ => rep (growF a n)) (Cs := [ref (growF a n)]) .none fnok42 (fun _ _ => Boxes2_spec (growF a n)) (.cons (.tmp rfl (fun _ => trivial)) .nil)) rfl ?_
            refine Chain.cons (StepOK.callIf .none fnok35 (is_Bx _ _ _ _ _) (.cons (.tmp rfl (fun _ => trivial)) (.cons (.tmp rfl (fun _ => trivial)) (.cons (.tmp rfl (fun _ => trivial)) (.cons (.tmp rfl (fun _ => trivial)) .nil)))) (fun _ _ => trivial)) rfl ?_
            refine Chain.cons (StepOK.assign .none (.tmp rfl (fun _ => trivial))) rfl ?_
            refine Chain.nil ?_
            refine Ends.then ?_
            refine Cod.weaken (.cons (t := 10) rfl Sub.nil) SubB.nil ?_
            refine Cod.ret ?_
            refine Ends.ret1 (.inl rfl) Try.results5 (ResOK.tmp rfl trivial ?_)
            exact Imp.eq (by first | exact boxes_g1 (by assumption) | exact boxes_g2 (by assumption))
          · try simp only [decide_eq_true_eq, decide_eq_false_iff_not, Bool.and_eq_true, Bool.or_eq_true, Bool.not_eq_true', Bool.not_eq_false', Bool.and_eq_false_iff, Bool.or_eq_false_iff, Int.not_lt, Int.not_le, Bool.true_eq_false, Bool.false_eq_true, true_and, and_true] at hb5
            refine Cod.skip ?_
            refine Ends.then ?_
            refine Cod.freeze (t := 26) rfl SubB.nil rfl ?_
            refine Cod.weaken (.cons (t := 14) rfl (.cons (t := 15) rfl (.cons (t := 25) rfl (.cons (t := 26) rfl Sub.nil)))) SubB.nil ?_
            refine Cod.seq ?_
            refine Cod.region [] mixed (by kernel_rfl) ?_
            refine Chain.cons (StepOK.load .none ty48 (.tmp rfl (fun _ => trivial))) rfl ?_
            refine Chain.cons (StepOK.move .none (.tmp rfl (fun _ => trivial))) rfl ?_
            refine Chain.cons (StepOK.move .none (.tmp rfl (fun _ => trivial))) rfl ?_
            refine Chain.cons (StepOK.makeFunc (ι := Unit) (pre := fun _ => True) (Ss := fun _ => []) (S := fun _ => rep (⟨0, 0, 0, 0⟩ : Bx)) (Cs := [ref (⟨0, 0, 0, 0⟩ : Bx)]) .none fnok42 (fun _ _ => Boxes2_spec (⟨0, 0, 0, 0⟩ : Bx)) (.cons (.tmp rfl (fun _ => trivial)) .nil)) rfl ?_
            refine Chain.cons (StepOK.callIf .none fnok35 (is_Bx _ _ _ _ _) (.cons (.tmp rfl (fun _ => trivial)) (.cons (.tmp rfl (fun _ => trivial)) (.cons (.tmp rfl (fun _ => trivial)) (.cons (.tmp rfl (fun _ => trivial)) .nil)))) (fun _ _ => trivial)) rfl ?_
            refine Chain.cons (StepOK.assign .none (.tmp rfl (fun _ => trivial))) rfl ?_
            refine Chain.nil ?_
            refine Ends.then ?_
            refine Cod.weaken (.cons (t := 10) rfl Sub.nil) SubB.nil ?_
            refine Cod.ret ?_
            refine Ends.ret1 (.inl rfl) Try.results5 (ResOK.tmp rfl trivial ?_)
            exact Imp.eq (by first | exact boxes_g1 (by assumption) | exact boxes_g2 (by assumption))
  · try simp only [decide_eq_true_eq, decide_eq_false_iff_not, Bool.and_eq_true, Bool.or_eq_true, Bool.not_eq_true', Bool.not_eq_false', Bool.and_eq_false_iff, Bool.or_eq_false_iff, Int.not_lt, Int.not_le, Bool.true_eq_false, Bool.false_eq_true, true_and, and_true] at hb1
    refine Cod.skip ?_
    refine Ends.then ?_
    refine Cod.freeze (t := 16) rfl SubB.nil rfl ?_
    refine Cod.weaken (.cons (t := 4) rfl (.cons (t := 5) rfl (.cons (t := 6) rfl (.cons (t := 8) rfl (.cons (t := 11) rfl (.cons (t := 12) rfl (.cons (t := 13) rfl (.cons (t := 14) rfl (.cons (t := 15) rfl (.cons (t := 16) rfl Sub.nil)))))))))) SubB.nil ?_
    refine Cod.seq ?_
    refine Cod.seq ?_
    refine Cod.region [] mixed (by kernel_rfl) ?_
    refine Chain.cons (StepOK.call .none (geoms_spec) .nil) rfl ?_
    refine Chain.cons (StepOK.not .none (.tmp rfl (fun _ => trivial))) rfl ?_
    refine Chain.cons (StepOK.move .none (.tmp rfl (fun _ => trivial))) rfl ?_
    refine Chain.cons (StepOK.load (.at rfl rfl) ty48 (.tmp rfl (fun _ => trivial))) rfl ?_
    refine Chain.cons (StepOK.call (.at rfl rfl) (CheckBox_spec _) (.cons (.tmp rfl id) .nil)) rfl ?_
    refine Chain.cons (StepOK.move (.at rfl rfl) (.tmp rfl (fun _ => trivial))) rfl ?_
    refine Chain.cons (StepOK.neI (.at rfl rfl) (.tmp rfl id) (.tmp rfl id)) rfl ?_
    refine Chain.cons (StepOK.pickOr .none (.tmp rfl (fun _ => trivial)) (.tmp rfl id)) rfl ?_
    refine Chain.cons (StepOK.move .none (.tmp rfl (fun _ => trivial))) rfl ?_
    refine Chain.cons (StepOK.load (.at rfl rfl) ty23 (.tmp rfl (fun _ => trivial))) rfl ?_
    refine Chain.cons (StepOK.call (.at rfl rfl) (CheckPoint_spec _) (.cons (.tmp rfl id) .nil)) rfl ?_
    refine Chain.cons (StepOK.load (.at rfl rfl) ty23 (.tmp rfl (fun _ => trivial))) rfl ?_
    refine Chain.cons (StepOK.call (.at rfl rfl) (PointError_spec _) (.cons (.tmp rfl id) .nil)) rfl ?_
    refine Chain.cons (StepOK.neI (.at rfl rfl) (.tmp rfl id) (.tmp rfl id)) rfl ?_
    refine Chain.cons (StepOK.pickOr .none (.tmp rfl (fun _ => trivial)) (.tmp rfl id)) rfl ?_
    refine Chain.cons (StepOK.move .none (.tmp rfl (fun _ => trivial))) rfl ?_
    refine Chain.cons (StepOK.load (.at rfl rfl) ty48 (.tmp rfl (fun _ => trivial))) rfl ?_
    refine Chain.cons (StepOK.move (.at rfl rfl) (.tmp rfl (fun _ => trivial))) rfl ?_
    refine Chain.cons (StepOK.move (.at rfl rfl) (.tmp rfl (fun _ => trivial))) rfl ?_
    refine Chain.cons (StepOK.makeFunc (ι := Unit) (pre := fun _ => True) (Ss := fun _ => []) (S := fun _ => rep (⟨0, 0, 0, 0⟩ : Bx)) (Cs := [ref (⟨0, 0, 0, 0⟩ : Bx)]) (.at rfl rfl) fnok36 (fun _ _ => Boxes1_spec (⟨0, 0, 0, 0⟩ : Bx)) (.cons (.tmp rfl (fun _ => trivial)) .nil)) rfl ?_
    refine Chain.cons (StepOK.callIf (.at rfl rfl) fnok35 (is_Bx _ _ _ _ _) (.cons (.tmp rfl id) (.cons (.tmp rfl id) (.cons (.tmp rfl id) (.cons (.tmp rfl id) .nil)))) (fun _ _ => trivial)) rfl ?_
    refine Chain.cons (StepOK.not (.at rfl rfl) (.tmp rfl id)) rfl ?_
    refine Chain.cons (StepOK.pickOr .none (.tmp rfl (fun _ => trivial)) (.tmp rfl id)) rfl ?_
    refine Chain.nil ?_
    refine Ends.then ?_
    refine Cod.weaken (.cons (t := 4) rfl (.cons (t := 5) rfl (.cons (t := 6) rfl (.cons (t := 11) rfl (.cons (t := 12) rfl (.cons (t := 71) rfl Sub.nil)))))) SubB.nil ?_
    refine Cod.cond (t := 71) rfl trivial (fun hb6 => ?_) (fun hb6 => ?_)
    · skip
      first | exact absurd hb6 (by rw [boxes_a1 hb1]; simp) | exact absurd hb6 (by rw [boxes_a2 hb1]; simp)
    · skip
      refine Cod.skip ?_
      refine Ends.then ?_
      refine Cod.weaken (.cons (t := 4) rfl (.cons (t := 5) rfl (.cons (t := 6) rfl (.cons (t := 11) rfl (.cons (t := 12) rfl Sub.nil))))) SubB.nil ?_
      refine Cod.seq ?_
      refine Cod.region [([], none), ([], none), ([], none), ([], none), ([], none), ([], none), ([], none), ([], some 17), ([17], some 17), ([], none), ([], none)] mixed (by kernel_rfl) ?_
      refine Chain.consA (StepOK.load .none ty48 (.tmp rfl (fun _ => trivial))) rfl ?_
      refine Chain.consA (StepOK.load .none ty48 (.tmp rfl (fun _ => trivial))) rfl ?_
      refine Chain.consA (StepOK.call .none (Common_spec _ _) (.cons (.tmp rfl (fun _ => trivial)) (.cons (.tmp rfl (fun _ => trivial)) .nil))) rfl ?_
      refine Chain.consA (StepOK.move .none (.tmp rfl (fun _ => trivial))) rfl ?_
      refine Chain.consA (StepOK.extract .none (.tmp rfl (fun _ => trivial)) rfl) rfl ?_
      refine Chain.consA (StepOK.extract .none (.tmp rfl (fun _ => trivial)) rfl) rfl ?_
      refine Chain.consA (StepOK.extract .none (.tmp rfl (fun _ => trivial)) rfl) rfl ?_
      refine Chain.alloc zo48 rfl rfl ?_
      refine Chain.store ty48 rfl (.tmp rfl (fun _ => trivial)) ?_
      refine Chain.consA (StepOK.assign .none (.tmp rfl (fun _ => trivial))) rfl ?_
      refine Chain.consA (StepOK.assign .none (.tmp rfl (fun _ => trivial))) rfl ?_
      refine Chain.nil ?_
      refine Ends.then ?_
      refine Cod.freeze (t := 17) rfl SubB.nil rfl ?_
      refine Cod.weaken (.cons (t := 4) rfl (.cons (t := 5) rfl (.cons (t := 6) rfl (.cons (t := 11) rfl (.cons (t := 12) rfl (.cons (t := 14) rfl (.cons (t := 17) rfl (.cons (t := 18) rfl Sub.nil)))))))) SubB.nil ?_
      refine Cod.seq ?_
      refine Cod.region [([], none), ([], none), ([], none), ([], none), ([], none), ([], none), ([], some 19), ([19], some 19), ([], none)] mixed (by kernel_rfl) ?_
      refine Chain.consA (StepOK.load .none ty48 (.tmp rfl (fun _ => trivial))) rfl ?_
      refine Chain.consA (StepOK.load .none ty48 (.tmp rfl (fun _ => trivial))) rfl ?_
      refine Chain.consA (StepOK.call .none (CommonOf_spec _ _) (.cons (.tmp rfl (fun _ => trivial)) (.cons (.tmp rfl (fun _ => trivial)) .nil))) rfl ?_
      refine Chain.consA (StepOK.move .none (.tmp rfl (fun _ => trivial))) rfl ?_
      refine Chain.consA (StepOK.extract .none (.tmp rfl (fun _ => trivial)) rfl) rfl ?_
      refine Chain.consA (StepOK.extract .none (.tmp rfl (fun _ => trivial)) rfl) rfl ?_
      refine Chain.alloc zo48 rfl rfl ?_
      refine Chain.store ty48 rfl (.tmp rfl (fun _ => trivial)) ?_
      refine Chain.consA (StepOK.assign .none (.tmp rfl (fun _ => trivial))) rfl ?_
      refine Chain.nil ?_
      refine Ends.then ?_
      refine Cod.freeze (t := 19) rfl SubB.nil rfl ?_
      refine Cod.weaken (.cons (t := 4) rfl (.cons (t := 5) rfl (.cons (t := 6) rfl (.cons (t := 11) rfl (.cons (t := 12) rfl (.cons (t := 14) rfl (.cons (t := 17) rfl (.cons (t := 18) rfl (.cons (t := 19) rfl (.cons (t := 20) rfl Sub.nil)))))))))) SubB.nil ?_
      refine Cod.seq ?_
      refine Cod.seq ?_
      refine Cod.region [] mixed (by kernel_rfl) ?_
      refine Chain.cons (StepOK.move .none (.tmp rfl (fun _ => trivial))) rfl ?_
      refine Chain.cons (StepOK.neI .none (.tmp rfl (fun _ => trivial)) (.int (by decide))) rfl ?_
      refine Chain.cons (StepOK.move .none (.tmp rfl (fun _ => trivial))) rfl ?_
      refine Chain.cons (StepOK.load (.at rfl rfl) ty48 (.tmp rfl (fun _ => trivial))) rfl ?_
      refine Chain.cons (StepOK.build (y := (⟨0, 0, 0, 0⟩ : Bx)) (.at rfl rfl) bu48 .nil rfl (fun M w vs h => by match vs, h with | [], _ => exact ⟨_, rfl, rep_bx_cells (by decide) (by decide) (by decide) (by decide)⟩)) rfl ?_
      refine Chain.cons (StepOK.neS (.at rfl rfl) eq48 (.tmp rfl id) (.tmp rfl id)) rfl ?_
      refine Chain.cons (StepOK.move (.at rfl rfl) (.tmp rfl id)) rfl ?_
      refine Chain.cons (StepOK.move (.at rfl rfl) (.tmp rfl (fun _ => trivial))) rfl ?_
      refine Chain.cons (StepOK.pickOr (.at rfl rfl) (.tmp rfl id) (.tmp rfl id)) rfl ?_
      refine Chain.cons (StepOK.move (.at rfl rfl) (.tmp rfl id)) rfl ?_
      refine Chain.cons (StepOK.move (.at rfl rfl) (.tmp rfl (fun _ => trivial))) rfl ?_
      refine Chain.cons (StepOK.move (.at rfl rfl) (.tmp rfl (fun _ => trivial))) rfl ?_
      refine Chain.cons (StepOK.neI (.at rfl rfl) (.tmp rfl id) (.tmp rfl id)) rfl ?_
      refine Chain.cons (StepOK.pickOr (.at rfl rfl) (.tmp rfl id) (.tmp rfl id)) rfl ?_
      refine Chain.cons (StepOK.pickAnd .none (.tmp rfl (fun _ => trivial)) (.tmp rfl id)) rfl ?_
      refine Chain.cons (StepOK.move .none (.tmp rfl (fun _ => trivial))) rfl ?_
      refine Chain.cons (StepOK.move (.at rfl rfl) (.tmp rfl (fun _ => trivial))) rfl ?_
      refine Chain.cons (StepOK.eqI (.at rfl rfl) (.tmp rfl id) (.int (by decide))) rfl ?_
      refine Chain.cons (StepOK.move (.at rfl rfl) (.tmp rfl id)) rfl ?_
      refine Chain.cons (StepOK.load (.at rfl rfl) ty48 (.tmp rfl (fun _ => trivial))) rfl ?_
      refine Chain.cons (StepOK.load (.at rfl rfl) ty48 (.tmp rfl (fun _ => trivial))) rfl ?_
      refine Chain.cons (StepOK.neS (.at rfl rfl) eq48 (.tmp rfl id) (.tmp rfl id)) rfl ?_
      refine Chain.cons (StepOK.move (.at rfl rfl) (.tmp rfl id)) rfl ?_
      refine Chain.cons (StepOK.move (.at rfl rfl) (.tmp rfl (fun _ => trivial))) rfl ?_
      refine Chain.cons (StepOK.move (.at rfl rfl) (.tmp rfl (fun _ => trivial))) rfl ?_
      refine Chain.cons (StepOK.neS (.at rfl rfl) (eqAt_bool Try.underlying4) (.tmp rfl id) (.tmp rfl id)) rfl ?_
      refine Chain.cons (StepOK.pickOr (.at rfl rfl) (.tmp rfl id) (.tmp rfl id)) rfl ?_
      refine Chain.cons (StepOK.move (.at rfl rfl) (.tmp rfl id)) rfl ?_
      refine Chain.cons (StepOK.move (.at rfl rfl) (.tmp rfl (fun _ => trivial))) rfl ?_
      refine Chain.cons (StepOK.neI (.at rfl rfl) (.tmp rfl id) (.int (by decide))) rfl ?_
      refine Chain.cons (StepOK.pickOr (.at rfl rfl) (.tmp rfl id) (.tmp rfl id)) rfl ?_
      refine Chain.cons (StepOK.pickAnd (.at rfl rfl) (.tmp rfl id) (.tmp rfl id)) rfl ?_
      refine Chain.cons (StepOK.pickOr .none (.tmp rfl (fun _ => trivial)) (.tmp rfl id)) rfl ?_
      refine Chain.nil ?_
      refine Ends.then ?_
      refine Cod.weaken (.cons (t := 4) rfl (.cons (t := 5) rfl (.cons (t := 6) rfl (.cons (t := 11) rfl (.cons (t := 12) rfl (.cons (t := 117) rfl Sub.nil)))))) SubB.nil ?_
      refine Cod.cond (t := 117) rfl trivial (fun hb7 => ?_) (fun hb7 => ?_)
      · skip
        exact absurd hb7 (by rw [← bxsErr2]; by_cases h0 : bxsErr [a, b] = 0 <;> simp [h0])
      · skip
        refine Cod.skip ?_
        refine Ends.then ?_
        refine Cod.weaken (.cons (t := 4) rfl (.cons (t := 5) rfl (.cons (t := 6) rfl (.cons (t := 11) rfl (.cons (t := 12) rfl Sub.nil))))) SubB.nil ?_
        refine Cod.seq ?_
        refine Cod.region [] mixed (by kernel_rfl) ?_
        refine Chain.cons (StepOK.load .none ty48 (.tmp rfl (fun _ => trivial))) rfl ?_
        refine Chain.cons (StepOK.load .none ty48 (.tmp rfl (fun _ => trivial))) rfl ?_
        refine Chain.cons (StepOK.call .none (Gap_spec _ _) (.cons (.tmp rfl (fun _ => trivial)) (.cons (.tmp rfl (fun _ => trivial)) .nil))) rfl ?_
        refine Chain.cons (StepOK.move .none (.tmp rfl (fun _ => trivial))) rfl ?_
        refine Chain.cons (StepOK.extract .none (.tmp rfl (fun _ => trivial)) rfl) rfl ?_
        refine Chain.cons (StepOK.extract .none (.tmp rfl (fun _ => trivial)) rfl) rfl ?_
        refine Chain.cons (StepOK.extract .none (.tmp rfl (fun _ => trivial)) rfl) rfl ?_
        refine Chain.cons (StepOK.assign .none (.tmp rfl (fun _ => trivial))) rfl ?_
        refine Chain.cons (StepOK.assign .none (.tmp rfl (fun _ => trivial))) rfl ?_
        refine Chain.cons (StepOK.assign .none (.tmp rfl (fun _ => trivial))) rfl ?_
        refine Chain.nil ?_
        refine Ends.then ?_
        refine Cod.weaken (.cons (t := 4) rfl (.cons (t := 5) rfl (.cons (t := 6) rfl (.cons (t := 11) rfl (.cons (t := 12) rfl (.cons (t := 14) rfl (.cons (t := 21) rfl (.cons (t := 22) rfl Sub.nil)))))))) SubB.nil ?_
        refine Cod.seq ?_
        refine Cod.region [] mixed (by kernel_rfl) ?_
        refine Chain.cons (StepOK.load .none ty48 (.tmp rfl (fun _ => trivial))) rfl ?_
        refine Chain.cons (StepOK.load .none ty48 (.tmp rfl (fun _ => trivial))) rfl ?_
        refine Chain.cons (StepOK.call .none (GapOf_spec _ _) (.cons (.tmp rfl (fun _ => trivial)) (.cons (.tmp rfl (fun _ => trivial)) .nil))) rfl ?_
        refine Chain.cons (StepOK.move .none (.tmp rfl (fun _ => trivial))) rfl ?_
        refine Chain.cons (StepOK.extract .none (.tmp rfl (fun _ => trivial)) rfl) rfl ?_
        refine Chain.cons (StepOK.extract .none (.tmp rfl (fun _ => trivial)) rfl) rfl ?_
        refine Chain.cons (StepOK.assign .none (.tmp rfl (fun _ => trivial))) rfl ?_
        refine Chain.cons (StepOK.assign .none (.tmp rfl (fun _ => trivial))) rfl ?_
        refine Chain.nil ?_
        refine Ends.then ?_
        refine Cod.weaken (.cons (t := 4) rfl (.cons (t := 5) rfl (.cons (t := 11) rfl (.cons (t := 12) rfl (.cons (t := 14) rfl (.cons (t := 21) rfl (.cons (t := 22) rfl (.cons (t := 23) rfl (.cons (t := 24) rfl Sub.nil))))))))) SubB.nil ?_
        refine Cod.seq ?_
        refine Cod.seq ?_
        refine Cod.region [] mixed (by kernel_rfl) ?_
        refine Chain.cons (StepOK.move .none (.tmp rfl (fun _ => trivial))) rfl ?_
        refine Chain.cons (StepOK.neI .none (.tmp rfl (fun _ => trivial)) (.int (by decide))) rfl ?_
        refine Chain.cons (StepOK.move .none (.tmp rfl (fun _ => trivial))) rfl ?_
        refine Chain.cons (StepOK.move (.at rfl rfl) (.tmp rfl (fun _ => trivial))) rfl ?_
        refine Chain.cons (StepOK.neI (.at rfl rfl) (.tmp rfl id) (.int (by decide))) rfl ?_
        refine Chain.cons (StepOK.move (.at rfl rfl) (.tmp rfl id)) rfl ?_
        refine Chain.cons (StepOK.move (.at rfl rfl) (.tmp rfl (fun _ => trivial))) rfl ?_
        refine Chain.cons (StepOK.neI (.at rfl rfl) (.tmp rfl id) (.int (by decide))) rfl ?_
        refine Chain.cons (StepOK.pickOr (.at rfl rfl) (.tmp rfl id) (.tmp rfl id)) rfl ?_
        refine Chain.cons (StepOK.move (.at rfl rfl) (.tmp rfl id)) rfl ?_
        refine Chain.cons (StepOK.move (.at rfl rfl) (.tmp rfl (fun _ => trivial))) rfl ?_
        refine Chain.cons (StepOK.move (.at rfl rfl) (.tmp rfl (fun _ => trivial))) rfl ?_
        refine Chain.cons (StepOK.neI (.at rfl rfl) (.tmp rfl id) (.tmp rfl id)) rfl ?_
        refine Chain.cons (StepOK.pickOr (.at rfl rfl) (.tmp rfl id) (.tmp rfl id)) rfl ?_
        refine Chain.cons (StepOK.pickAnd .none (.tmp rfl (fun _ => trivial)) (.tmp rfl id)) rfl ?_
        refine Chain.cons (StepOK.move .none (.tmp rfl (fun _ => trivial))) rfl ?_
        refine Chain.cons (StepOK.move (.at rfl rfl) (.tmp rfl (fun _ => trivial))) rfl ?_
        refine Chain.cons (StepOK.eqI (.at rfl rfl) (.tmp rfl id) (.int (by decide))) rfl ?_
        refine Chain.cons (StepOK.move (.at rfl rfl) (.tmp rfl id)) rfl ?_
        refine Chain.cons (StepOK.move (.at rfl rfl) (.tmp rfl (fun _ => trivial))) rfl ?_
        refine Chain.cons (StepOK.move (.at rfl rfl) (.tmp rfl (fun _ => trivial))) rfl ?_
        refine Chain.cons (StepOK.neI (.at rfl rfl) (.tmp rfl id) (.tmp rfl id)) rfl ?_
        refine Chain.cons (StepOK.move (.at rfl rfl) (.tmp rfl id)) rfl ?_
        refine Chain.cons (StepOK.move (.at rfl rfl) (.tmp rfl (fun _ => trivial))) rfl ?_
        refine Chain.cons (StepOK.move (.at rfl rfl) (.tmp rfl (fun _ => trivial))) rfl ?_
        refine Chain.cons (StepOK.neI (.at rfl rfl) (.tmp rfl id) (.tmp rfl id)) rfl ?_
        refine Chain.cons (StepOK.pickOr (.at rfl rfl) (.tmp rfl id) (.tmp rfl id)) rfl ?_
        refine Chain.cons (StepOK.move (.at rfl rfl) (.tmp rfl id)) rfl ?_
        refine Chain.cons (StepOK.move (.at rfl rfl) (.tmp rfl (fun _ => trivial))) rfl ?_
        refine Chain.cons (StepOK.neI (.at rfl rfl) (.tmp rfl id) (.int (by decide))) rfl ?_
        refine Chain.cons (StepOK.pickOr (.at rfl rfl) (.tmp rfl id) (.tmp rfl id)) rfl ?_
        refine Chain.cons (StepOK.pickAnd (.at rfl rfl) (.tmp rfl id) (.tmp rfl id)) rfl ?_
        refine Chain.cons (StepOK.pickOr .none (.tmp rfl (fun _ => trivial)) (.tmp rfl id)) rfl ?_
        refine Chain.nil ?_
        refine Ends.then ?_
        refine Cod.weaken (.cons (t := 4) rfl (.cons (t := 5) rfl (.cons (t := 11) rfl (.cons (t := 163) rfl Sub.nil)))) SubB.nil ?_
        refine Cod.cond (t := 163) rfl trivial (fun hb8 => ?_) (fun hb8 => ?_)
        · skip
          exact absurd hb8 (by rw [← bxsErr2]; by_cases h0 : bxsErr [a, b] = 0 <;> simp [h0])
        · skip
          refine Cod.skip ?_
          refine Ends.then ?_
          refine Cod.weaken (.cons (t := 4) rfl (.cons (t := 5) rfl (.cons (t := 11) rfl Sub.nil))) SubB.nil ?_
          refine Cod.seq ?_
          refine Cod.region [([], none), ([], none), ([], none), ([], none), ([], none), ([], none), ([], some 25), ([25], some 25), ([], none)] mixed (by kernel_rfl) ?_
          refine Chain.consA (StepOK.load .none ty48 (.tmp rfl (fun _ => trivial))) rfl ?_
          refine Chain.consA (StepOK.move .none (.tmp rfl (fun _ => trivial))) rfl ?_
          refine Chain.consA (StepOK.call .none (Grow_spec _ _) (.cons (.tmp rfl (fun _ => trivial)) (.cons (.tmp rfl (fun _ => trivial)) .nil))) rfl ?_
          refine Chain.consA (StepOK.move .none (.tmp rfl (fun _ => trivial))) rfl ?_
          refine Chain.consA (StepOK.extract .none (.tmp rfl (fun _ => trivial)) rfl) rfl ?_
          refine Chain.consA (StepOK.extract .none (.tmp rfl (fun _ => trivial)) rfl) rfl ?_
          refine Chain.alloc zo48 rfl rfl ?_
          refine Chain.store ty48 rfl (.tmp rfl (fun _ => trivial)) ?_
          refine Chain.consA (StepOK.assign .none (.tmp rfl (fun _ => trivial))) rfl ?_
          refine Chain.nil ?_
          refine Ends.then ?_
          refine Cod.freeze (t := 25) rfl SubB.nil rfl ?_
          refine Cod.weaken (.cons (t := 4) rfl (.cons (t := 5) rfl (.cons (t := 11) rfl (.cons (t := 14) rfl (.cons (t := 25) rfl Sub.nil))))) SubB.nil ?_
          refine Cod.seq ?_
          refine Cod.region [] mixed (by kernel_rfl) ?_
          refine Chain.cons (StepOK.move .none (.tmp rfl (fun _ => trivial))) rfl ?_
          refine Chain.cons (StepOK.move .none (.tmp rfl (fun _ => trivial))) rfl ?_
          refine Chain.cons (StepOK.call .none (In_spec _ _ _) (.cons (.tmp rfl (fun _ => trivial)) (.cons (.int (by decide)) (.cons (.int (by decide)) .nil)))) rfl ?_
          refine Chain.cons (StepOK.not .none (.tmp rfl (fun _ => trivial))) rfl ?_
          refine Chain.cons (StepOK.call .none (When_spec _ _) (.cons (.tmp rfl (fun _ => trivial)) (.cons (.int (by decide)) .nil))) rfl ?_
          refine Chain.cons (StepOK.buildSlice (xs := [_, _]) .none sl94 ty24 hz24 (.cons (.tmp rfl (fun _ => trivial)) (.cons (.tmp rfl (fun _ => trivial)) .nil)) rfl (by decide)) rfl ?_
          refine Chain.cons (StepOK.call .none (First_spec _) (.cons (.tmp rfl (fun _ => trivial)) .nil)) rfl ?_
          refine Chain.cons (StepOK.assign .none (.tmp rfl (fun _ => trivial))) rfl ?_
          refine Chain.nil ?_
          refine Ends.then ?_
          refine Cod.weaken (.cons (t := 4) rfl (.cons (t := 5) rfl (.cons (t := 14) rfl (.cons (t := 15) rfl (.cons (t := 25) rfl Sub.nil))))) SubB.nil ?_
          refine Cod.seq ?_
          refine Cod.region [([], none), ([], some 26), ([26], some 26)] mixed (by kernel_rfl) ?_
          refine Chain.consA (StepOK.build (y := (⟨0, 0, 0, 0⟩ : Bx)) .none bu48 .nil rfl (fun M w vs h => by match vs, h with | [], _ => exact ⟨_, rfl, rep_bx_cells (by decide) (by decide) (by decide) (by decide)⟩)) rfl ?_
          refine Chain.alloc zo48 rfl rfl ?_
          refine Chain.store ty48 rfl (.tmp rfl (fun _ => trivial)) ?_
          refine Chain.nil ?_
          refine Ends.then ?_
          refine Cod.weaken (.cons (t := 4) rfl (.cons (t := 5) rfl (.cons (t := 14) rfl (.cons (t := 15) rfl (.cons (t := 25) rfl Sub.nil))))) (.cons (t := 26) rfl SubB.nil) ?_
          refine Cod.seq ?_
          refine Cod.seq ?_
          refine Cod.region [] mixed (by kernel_rfl) ?_
          refine Chain.cons (StepOK.move .none (.tmp rfl (fun _ => trivial))) rfl ?_
          refine Chain.cons (StepOK.eqI .none (.tmp rfl (fun _ => trivial)) (.int (by decide))) rfl ?_
          refine Chain.nil ?_
          refine Ends.then ?_
          refine Cod.weaken (.cons (t := 4) rfl (.cons (t := 5) rfl (.cons (t := 14) rfl (.cons (t := 15) rfl (.cons (t := 25) rfl (.cons (t := 179) rfl Sub.nil)))))) (.cons (t := 26) rfl SubB.nil) ?_
          refine Cod.cond (t := 179) rfl trivial (fun hb9 => ?_) (fun hb9 => ?_)
          · try simp only [decide_eq_true_eq, decide_eq_false_iff_not, Bool.and_eq_true, Bool.or_eq_true, Bool.not_eq_true', Bool.not_eq_false', Bool.and_eq_false_iff, Bool.or_eq_false_iff, Int.not_lt, Int.not_le, Bool.true_eq_false, Bool.false_eq_true, true_and, and_true] at hb9
            obtain ⟨hg1, hg2, hg3⟩ := grow_ok hb9; unfold BxIn at hg2
            refine Cod.seq ?_
            refine Cod.region [([], none), ([], none), ([], none), ([], none), ([], none), ([], none), ([], none), ([], none), ([], none), ([], none), ([], none), ([], none), ([], none), ([], none), ([], none), ([], none), ([], none), ([], none), ([], none), ([26], some 26)] mixed (by kernel_rfl) ?_
            refine Chain.consA (StepOK.fieldAddr .none fd48_0 hfd48_0 (.tmp rfl (fun _ => trivial))) rfl ?_
            refine Chain.consA (StepOK.load .none ty3 (.tmp rfl (fun _ => trivial))) rfl ?_
            refine Chain.consA (StepOK.move .none (.tmp rfl (fun _ => trivial))) rfl ?_
            refine Chain.consA (StepOK.sub .none (.tmp rfl (fun _ => trivial)) (.tmp rfl (fun _ => trivial)) (by intro _ h1 h2; unfold InI at *; omega)) rfl ?_
            refine Chain.consA (StepOK.fieldAddr .none fd48_1 hfd48_1 (.tmp rfl (fun _ => trivial))) rfl ?_
            refine Chain.consA (StepOK.load .none ty3 (.tmp rfl (fun _ => trivial))) rfl ?_
            refine Chain.consA (StepOK.move .none (.tmp rfl (fun _ => trivial))) rfl ?_
            refine Chain.consA (StepOK.sub .none (.tmp rfl (fun _ => trivial)) (.tmp rfl (fun _ => trivial)) (by intro _ h1 h2; unfold InI at *; omega)) rfl ?_
            refine Chain.consA (StepOK.fieldAddr .none fd48_2 hfd48_2 (.tmp rfl (fun _ => trivial))) rfl ?_
            refine Chain.consA (StepOK.load .none ty3 (.tmp rfl (fun _ => trivial))) rfl ?_
            refine Chain.consA (StepOK.move .none (.tmp rfl (fun _ => trivial))) rfl ?_
            refine Chain.consA (StepOK.mul .none (.int (by decide)) (.tmp rfl (fun _ => trivial)) (by intro _ h1 h2; unfold InI at *; omega)) rfl ?_
            refine Chain.consA (StepOK.add .none (.tmp rfl (fun _ => trivial)) (.tmp rfl (fun _ => trivial)) (by intro _ h1 h2; unfold InI at *; omega)) rfl ?_
            refine Chain.consA (StepOK.fieldAddr .none fd48_3 hfd48_3 (.tmp rfl (fun _ => trivial))) rfl ?_
            refine Chain.consA (StepOK.load .none ty3 (.tmp rfl (fun _ => trivial))) rfl ?_
            refine Chain.consA (StepOK.move .none (.tmp rfl (fun _ => trivial))) rfl ?_
            refine Chain.consA (StepOK.mul .none (.int (by decide)) (.tmp rfl (fun _ => trivial)) (by intro _ h1 h2; unfold InI at *; omega)) rfl ?_
            refine Chain.consA (StepOK.add .none (.tmp rfl (fun _ => trivial)) (.tmp rfl (fun _ => trivial)) (by intro _ h1 h2; unfold InI at *; omega)) rfl ?_
            refine Chain.consA (StepOK.build (y := (⟨_, _, _, _⟩ : Bx)) .none bu48 (.cons (.tmp rfl (fun _ => trivial)) (.cons (.tmp rfl (fun _ => trivial)) (.cons (.tmp rfl (fun _ => trivial)) (.cons (.tmp rfl (fun _ => trivial)) .nil)))) rfl (fun M w vs h => by obtain ⟨rfl, hi⟩ := All2.ints [_, _, _, _] vs h; exact ⟨_, rfl, rep_bx_cells (p := ⟨_, _, _, _⟩) (hi _ (.head _)) (hi _ (.tail _ (.head _))) (hi _ (.tail _ (.tail _ (.head _)))) (hi _ (.tail _ (.tail _ (.tail _ (.head _)))))⟩)) rfl ?_
            refine Chain.store ty48 rfl (.tmp rfl (fun _ => trivial)) ?_
            refine Chain.nil ?_
            refine Ends.then ?_
            refine Cod.freeze (t := 26) rfl SubB.nil rfl ?_
            refine Cod.weaken (.cons (t := 14) rfl (.cons (t := 25) rfl (.cons (t := 26) rfl Sub.nil))) SubB.nil ?_
            refine Cod.region [] mixed (by kernel_rfl) ?_
            refine Chain.cons (StepOK.fieldAddr .none fd48_2 hfd48_2 (.tmp rfl (fun _ => trivial))) rfl ?_
            refine Chain.cons (StepOK.load .none ty3 (.tmp rfl (fun _ => trivial))) rfl ?_
            refine Chain.cons (StepOK.lt .none (.tmp rfl (fun _ => trivial)) (.int (by decide))) rfl ?_
            refine Chain.cons (StepOK.move .none (.tmp rfl (fun _ => trivial))) rfl ?_
            refine Chain.cons (StepOK.fieldAddr (.at rfl rfl) fd48_3 hfd48_3 (.tmp rfl (fun _ => trivial))) rfl ?_
            refine Chain.cons (StepOK.load (.at rfl rfl) ty3 (.tmp rfl id)) rfl ?_
            refine Chain.cons (StepOK.lt (.at rfl rfl) (.tmp rfl id) (.int (by decide))) rfl ?_
            refine Chain.cons (StepOK.pickOr .none (.tmp rfl (fun _ => trivial)) (.tmp rfl id)) rfl ?_
            refine Chain.cons (StepOK.call .none (When_spec _ _) (.cons (.tmp rfl (fun _ => trivial)) (.cons (.int (by decide)) .nil))) rfl ?_
            refine Chain.cons (StepOK.load .none ty48 (.tmp rfl (fun _ => trivial))) rfl ?_
            refine Chain.cons (StepOK.call .none (BoxError_spec _) (.cons (.tmp rfl (fun _ => trivial)) .nil)) rfl ?_
            refine Chain.cons (StepOK.buildSlice (xs := [_, _]) .none sl94 ty24 hz24 (.cons (.tmp rfl (fun _ => trivial)) (.cons (.tmp rfl (fun _ => trivial)) .nil)) rfl (by decide)) rfl ?_
            refine Chain.cons (StepOK.call .none (First_spec _) (.cons (.tmp rfl (fun _ => trivial)) .nil)) rfl ?_
            refine Chain.cons (StepOK.assign .none (.tmp rfl (fun _ => trivial))) rfl ?_
            refine Chain.nil ?_
            refine Ends.then ?_
            refine Cod.weaken (.cons (t := 14) rfl (.cons (t := 15) rfl (.cons (t := 25) rfl (.cons (t := 26) rfl Sub.nil)))) SubB.nil ?_
            refine Cod.seq ?_
            refine Cod.region [] mixed (by kernel_rfl) ?_
            refine Chain.cons (StepOK.load .none ty48 (.tmp rfl (fun _ => trivial))) rfl ?_
            refine Chain.cons (StepOK.move .none (.tmp rfl (fun _ => trivial))) rfl ?_
            refine Chain.cons (StepOK.move .none (.tmp rfl (fun _ => trivial))) rfl ?_
            refine Chain.cons (StepOK.makeFunc (ι := Unit) (pre := fun _ => True) (Ss := fun _ => []) (S := fun _ => rep (growF a n)) (Cs := [ref (growF a n)]) .none fnok42 (fun _ _ => Boxes2_spec (growF a n)) (.cons (.tmp rfl (fun _ => trivial)) .nil)) rfl ?_
            refine Chain.cons (StepOK.callIf .none fnok35 (is_Bx _ _ _ _ _) (.cons (.tmp rfl (fun _ => trivial)) (.cons (.tmp rfl (fun _ => trivial)) (.cons (.tmp rfl (fun _ => trivial)) (.cons (.tmp rfl (fun _ => trivial)) .nil)))) (fun _ _ => trivial)) rfl ?_
            refine Chain.cons (StepOK.assign .none (.tmp rfl (fun _ => trivial))) rfl ?_
            refine Chain.nil ?_
            refine Ends.then ?_
            refine Cod.weaken (.cons (t := 10) rfl Sub.nil) SubB.nil ?_
            refine Cod.ret ?_
            refine Ends.ret1 (.inl rfl) Try.results5 (ResOK.tmp rfl trivial ?_)
            exact Imp.eq (by first | exact boxes_g1 (by assumption) | exact boxes_g2 (by assumption))
          · try simp only [decide_eq_true_eq, decide_eq_false_iff_not, Bool.and_eq_true, Bool.or_eq_true, Bool.not_eq_true', Bool.not_eq_false', Bool.and_eq_false_iff, Bool.or_eq_false_iff, Int.not_lt, Int.not_le, Bool.true_eq_false, Bool.false_eq_true, true_and, and_true] at hb9
            refine Cod.skip ?_
            refine Ends.then ?_
            refine Cod.freeze (t := 26) rfl SubB.nil rfl ?_
            refine Cod.weaken (.cons (t := 14) rfl (.cons (t := 15) rfl (.cons (t := 25) rfl (.cons (t := 26) rfl Sub.nil)))) SubB.nil ?_
            refine Cod.seq ?_
            refine Cod.region [] mixed (by kernel_rfl) ?_
            refine Chain.cons (StepOK.load .none ty48 (.tmp rfl (fun _ => trivial))) rfl ?_
            refine Chain.cons (StepOK.move .none (.tmp rfl (fun _ => trivial))) rfl ?_
            refine Chain.cons (StepOK.move .none (.tmp rfl (fun _ => trivial))) rfl ?_
            refine Chain.cons (StepOK.makeFunc (ι := Unit) (pre := fun _ => True) (Ss := fun _ => []) (S := fun _ => rep (⟨0, 0, 0, 0⟩ : Bx)) (Cs := [ref (⟨0, 0, 0, 0⟩ : Bx)]) .none fnok42 (fun _ _ => Boxes2_spec (⟨0, 0, 0, 0⟩ : Bx)) (.cons (.tmp rfl (fun _ => trivial)) .nil)) rfl ?_
            refine Chain.cons (StepOK.callIf .none fnok35 (is_Bx _ _ _ _ _) (.cons (.tmp rfl (fun _ => trivial)) (.cons (.tmp rfl (fun _ => trivial)) (.cons (.tmp rfl (fun _ => trivial)) (.cons (.tmp rfl (fun _ => trivial)) .nil)))) (fun _ _ => trivial)) rfl ?_
            refine Chain.cons (StepOK.assign .none (.tmp rfl (fun _ => trivial))) rfl ?_
            refine Chain.nil ?_
            refine Ends.then ?_
            refine Cod.weaken (.cons (t := 10) rfl Sub.nil) SubB.nil ?_
            refine Cod.ret ?_
            refine Ends.ret1 (.inl rfl) Try.results5 (ResOK.tmp rfl trivial ?_)
            exact Imp.eq (by first | exact boxes_g1 (by assumption) | exact boxes_g2 (by assumption))

end Go.Proofs.Ytieepiblancbpaa
